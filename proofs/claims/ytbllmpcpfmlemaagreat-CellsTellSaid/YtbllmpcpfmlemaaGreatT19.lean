/- The reference: Live (printed by t19gen.py). -/
import Derived.Test.YtbllmpcpfmlemaaGreatT18
import Derived.Test.YtbllmpcpfmlemaaGreatZB
import Derived.Test.YtbllmpcpfmlemaaGreatSh
namespace Go.Proofs.YtbllmpcpfmlemaaGreat
open Go.RowKit
noncomputable def lv6eC : Code := ((Tryz.f22.body.bind (theRegion 6)).getD .skip)
set_option maxRecDepth 1000000 in
set_option maxHeartbeats 1600000 in
set_option linter.unusedSimpArgs false in
theorem lv6e_any (w : World) (d j k m c : Nat) (A : Option Addr)  (K : Exit → Act → World → Prop)
    (hS : ∀ W, Keeps [] w W → True)
    (i1 : ¬ ((k : Int) < (m : Int)))
    (u1 u2 u6 u7 u8 u9 u10 u11 u12 u13 u14 u15 u16 u17 u18 u19 u20 u21 u22 u23 u24 u25 u26 u27 u28 u29 u30 u31 u32 u33 u34 u35 u36 u37 u38 u39 u40 u41 u42 u43 u44 u45 u46 u47 u48 u49 u50 u51 u52 u53 u54 u55 : Value)
    (hK : ∀ (v15 v16 v17 v18 v19 v20 v21 v22 v23 v24 v25 v26 v27 v28 v29 v30 v31 v32 : Value) (W : World), Keeps [] w W → K .normal ⟨#[.pointer (some ⟨d, 0, none⟩), u1, u2, .slice A m c, .int .i64 (j : Nat), .int .i64 (k : Nat), u6, u7, u8, u9, u10, u11, u12, u13, u14, v15, v16, v17, v18, v19, v20, v21, v22, v23, v24, v25, v26, v27, v28, v29, v30, v31, v32, .bool false, u34, u35, u36, u37, u38, u39, u40, u41, u42, u43, u44, u45, u46, u47, u48, u49, u50, u51, u52, u53, u54, u55], []⟩ W) :
    Code.wp Tryz.prog lv6eC K ⟨#[.pointer (some ⟨d, 0, none⟩), u1, u2, .slice A m c, .int .i64 (j : Nat), .int .i64 (k : Nat), u6, u7, u8, u9, u10, u11, u12, u13, u14, u15, u16, u17, u18, u19, u20, u21, u22, u23, u24, u25, u26, u27, u28, u29, u30, u31, u32, u33, u34, u35, u36, u37, u38, u39, u40, u41, u42, u43, u44, u45, u46, u47, u48, u49, u50, u51, u52, u53, u54, u55], []⟩ w := by
  have HS := Lib.hid hS
  clear hS
  conv => arg 2; whnf
  try dsimp only at hK ⊢
  refine wp_region_noPanic ?_
  refine wp_region_held_drew (S := fun W => True) (by kernel_rfl) (HS.out _ ((Keeps.refl [] w).drew)) (fun hHeld => ?_)
  obtain ⟨w0, hw0⟩ : ∃ w0, w.drew = w0 := ⟨_, rfl⟩
  try rw [hw0] at hHeld
  rw [hw0]
  have K0 : Keeps [] w w0 := by rw [← hw0]; exact (Keeps.refl [] w).drew
  clear hw0
  refine wpAnyH_take (i := 0) (oi := ⟨some 15, .move (.tmp 5), 3, _, _, none⟩) (v := ?vq1) rfl (by kernel_rfl) (by kernel_rfl) (by kernel_rfl) (fun _ _ _ h => h) (Or.inl ⟨by rfl, fun W hW => ?_⟩) (by assumption) ?_
  rotate_left
  · go_simp
    with_reducible rfl
  try simp only [Act.put, lA, l0, lS]
  refine wpAnyH_take (i := 1) (oi := ⟨some 16, .move (.tmp 3), 42, _, _, none⟩) (v := ?vq2) rfl (by kernel_rfl) (by kernel_rfl) (by kernel_rfl) (fun _ _ _ h => h) (Or.inl ⟨by rfl, fun W hW => ?_⟩) (by assumption) ?_
  rotate_left
  · go_simp
    with_reducible rfl
  try simp only [Act.put, lA, l0, lS]
  refine wpAnyH_take (i := 2) (oi := ⟨some 17, .call { callee := .builtin .len, args := #[.tmp 16], argTypes := #[42] }, 3, _, _, none⟩) (v := ?vq3) rfl (by kernel_rfl) (by kernel_rfl) (by kernel_rfl) (fun _ _ _ h => h) (Or.inl ⟨by rfl, fun W hW => ?_⟩) (by assumption) ?_
  rotate_left
  · go_simp
    with_reducible rfl
  try simp only [Act.put, lA, l0, lS]
  refine wpAnyH_take (i := 3) (oi := ⟨some 18, .binOp .lss 3 (.tmp 15) (.tmp 17) 3, 4, _, _, none⟩) (v := .bool false) rfl (by kernel_rfl) (by kernel_rfl) (by kernel_rfl) (fun _ _ _ h => h) (Or.inl ⟨by rfl, fun W hW => ?_⟩) (by assumption) ?_
  · go_simp
  try simp only [Act.put, lA, l0, lS]
  refine wpAnyH_take (i := 4) (oi := ⟨some 19, .move (.tmp 18), 4, _, _, none⟩) (v := .bool false) rfl (by kernel_rfl) (by kernel_rfl) (by kernel_rfl) (fun _ _ _ h => h) (Or.inl ⟨by rfl, fun W hW => ?_⟩) (by assumption) ?_
  · go_simp
  try simp only [Act.put, lA, l0, lS]
  refine wpAnyH_take (i := 5) (oi := ⟨some 20, .move (.tmp 3), 42, _, _, some (4, true)⟩) (v := undef) rfl (by kernel_rfl) (by kernel_rfl) (by kernel_rfl) (fun _ _ _ h => h) (Or.inr ⟨by rfl, rfl⟩) (by assumption) ?_
  try simp only [Act.put, lA, l0, lS]
  refine wpAnyH_take (i := 6) (oi := ⟨some 21, .move (.tmp 5), 3, _, _, some (4, true)⟩) (v := undef) rfl (by kernel_rfl) (by kernel_rfl) (by kernel_rfl) (fun _ _ _ h => h) (Or.inr ⟨by rfl, rfl⟩) (by assumption) ?_
  try simp only [Act.put, lA, l0, lS]
  refine wpAnyH_take (i := 7) (oi := ⟨some 22, .indexAddr 42 (.tmp 20) (.tmp 21), 0, _, _, some (4, true)⟩) (v := undef) rfl (by kernel_rfl) (by kernel_rfl) (by kernel_rfl) (fun _ _ _ h => h) (Or.inr ⟨by rfl, rfl⟩) (by assumption) ?_
  try simp only [Act.put, lA, l0, lS]
  refine wpAnyH_take (i := 8) (oi := ⟨some 23, .load 3 (.tmp 22), 3, _, _, some (4, true)⟩) (v := undef) rfl (by kernel_rfl) (by kernel_rfl) (by kernel_rfl) (fun _ _ _ h => h) (Or.inr ⟨by rfl, rfl⟩) (by assumption) ?_
  try simp only [Act.put, lA, l0, lS]
  refine wpAnyH_take (i := 9) (oi := ⟨some 24, .move (.tmp 0), 26, _, _, some (4, true)⟩) (v := undef) rfl (by kernel_rfl) (by kernel_rfl) (by kernel_rfl) (fun _ _ _ h => h) (Or.inr ⟨by rfl, rfl⟩) (by assumption) ?_
  try simp only [Act.put, lA, l0, lS]
  refine wpAnyH_take (i := 10) (oi := ⟨some 25, .nilCheck (.tmp 24), 0, _, _, some (4, true)⟩) (v := undef) rfl (by kernel_rfl) (by kernel_rfl) (by kernel_rfl) (fun _ _ _ h => h) (Or.inr ⟨by rfl, rfl⟩) (by assumption) ?_
  try simp only [Act.put, lA, l0, lS]
  refine wpAnyH_take (i := 11) (oi := ⟨some 26, .fieldAddr 71 (.tmp 25) 0, 0, _, _, some (4, true)⟩) (v := undef) rfl (by kernel_rfl) (by kernel_rfl) (by kernel_rfl) (fun _ _ _ h => h) (Or.inr ⟨by rfl, rfl⟩) (by assumption) ?_
  try simp only [Act.put, lA, l0, lS]
  refine wpAnyH_take (i := 12) (oi := ⟨some 27, .load 69 (.tmp 26), 69, _, _, some (4, true)⟩) (v := undef) rfl (by kernel_rfl) (by kernel_rfl) (by kernel_rfl) (fun _ _ _ h => h) (Or.inr ⟨by rfl, rfl⟩) (by assumption) ?_
  try simp only [Act.put, lA, l0, lS]
  refine wpAnyH_take (i := 13) (oi := ⟨some 28, .move (.tmp 4), 3, _, _, some (4, true)⟩) (v := undef) rfl (by kernel_rfl) (by kernel_rfl) (by kernel_rfl) (fun _ _ _ h => h) (Or.inr ⟨by rfl, rfl⟩) (by assumption) ?_
  try simp only [Act.put, lA, l0, lS]
  refine wpAnyH_take (i := 14) (oi := ⟨some 29, .indexAddr 69 (.tmp 27) (.tmp 28), 0, _, _, some (4, true)⟩) (v := undef) rfl (by kernel_rfl) (by kernel_rfl) (by kernel_rfl) (fun _ _ _ h => h) (Or.inr ⟨by rfl, rfl⟩) (by assumption) ?_
  try simp only [Act.put, lA, l0, lS]
  refine wpAnyH_take (i := 15) (oi := ⟨some 30, .fieldAddr 68 (.tmp 29) 0, 0, _, _, some (4, true)⟩) (v := undef) rfl (by kernel_rfl) (by kernel_rfl) (by kernel_rfl) (fun _ _ _ h => h) (Or.inr ⟨by rfl, rfl⟩) (by assumption) ?_
  try simp only [Act.put, lA, l0, lS]
  refine wpAnyH_take (i := 16) (oi := ⟨some 31, .load 3 (.tmp 30), 3, _, _, some (4, true)⟩) (v := undef) rfl (by kernel_rfl) (by kernel_rfl) (by kernel_rfl) (fun _ _ _ h => h) (Or.inr ⟨by rfl, rfl⟩) (by assumption) ?_
  try simp only [Act.put, lA, l0, lS]
  refine wpAnyH_take (i := 17) (oi := ⟨some 32, .binOp .lss 3 (.tmp 23) (.tmp 31) 3, 4, _, _, some (4, true)⟩) (v := undef) rfl (by kernel_rfl) (by kernel_rfl) (by kernel_rfl) (fun _ _ _ h => h) (Or.inr ⟨by rfl, rfl⟩) (by assumption) ?_
  try simp only [Act.put, lA, l0, lS]
  refine wpAnyH_take (i := 18) (oi := ⟨some 33, .pick (.tmp 19) (.tmp 32) (.const (Value.bool false)), 4, _, _, none⟩) (v := .bool false) rfl (by kernel_rfl) (by kernel_rfl) (by kernel_rfl) (fun _ _ _ h => h) (Or.inl ⟨by rfl, fun W hW => ?_⟩) (by assumption) ?_
  · go_simp
  try simp only [Act.put, lA, l0, lS]
  refine wpAnyH_done (by kernel_rfl) ?_ _
  refine NoPanic.normal ?_
  exact hK _ _ _ _ _ _ _ _ _ _ _ _ _ _ _ _ _ _ _ K0
noncomputable def lv6mC : Code := ((Tryz.f22.body.bind (theRegion 6)).getD .skip)
set_option maxRecDepth 1000000 in
set_option maxHeartbeats 1600000 in
set_option linter.unusedSimpArgs false in
theorem lv6m_any (w : World) (d g n cap j k go m c : Nat) (y z : Int) (t : Bool)  (K : Exit → Act → World → Prop)
    (hS : ∀ W, Keeps [] w W → W.cell? ⟨go, k, none⟩ = some (.int .i64 y) ∧ W.cell? ⟨d, 0, none⟩ = some (.slice (some ⟨g, 0, none⟩) n cap) ∧ W.cell? ⟨g, j * 5, none⟩ = some (.int .i64 z))
    (i0 : (0 : Int) ≤ (k : Int)) (i1 : (k : Int) < (m : Int)) (i2 : (0 : Int) ≤ (j : Int)) (i3 : (j : Int) < (n : Int)) (ht : decide (y < z) = t)
    (u1 u2 u6 u7 u8 u9 u10 u11 u12 u13 u14 u15 u16 u17 u18 u19 u20 u21 u22 u23 u24 u25 u26 u27 u28 u29 u30 u31 u32 u33 u34 u35 u36 u37 u38 u39 u40 u41 u42 u43 u44 u45 u46 u47 u48 u49 u50 u51 u52 u53 u54 u55 : Value)
    (hK : ∀ (v15 v16 v17 v18 v19 v20 v21 v22 v23 v24 v25 v26 v27 v28 v29 v30 v31 v32 : Value) (W : World), Keeps [] w W → K .normal ⟨#[.pointer (some ⟨d, 0, none⟩), u1, u2, .slice (some ⟨go, 0, none⟩) m c, .int .i64 (j : Nat), .int .i64 (k : Nat), u6, u7, u8, u9, u10, u11, u12, u13, u14, v15, v16, v17, v18, v19, v20, v21, v22, v23, v24, v25, v26, v27, v28, v29, v30, v31, v32, .bool t, u34, u35, u36, u37, u38, u39, u40, u41, u42, u43, u44, u45, u46, u47, u48, u49, u50, u51, u52, u53, u54, u55], []⟩ W) :
    Code.wp Tryz.prog lv6mC K ⟨#[.pointer (some ⟨d, 0, none⟩), u1, u2, .slice (some ⟨go, 0, none⟩) m c, .int .i64 (j : Nat), .int .i64 (k : Nat), u6, u7, u8, u9, u10, u11, u12, u13, u14, u15, u16, u17, u18, u19, u20, u21, u22, u23, u24, u25, u26, u27, u28, u29, u30, u31, u32, u33, u34, u35, u36, u37, u38, u39, u40, u41, u42, u43, u44, u45, u46, u47, u48, u49, u50, u51, u52, u53, u54, u55], []⟩ w := by
  have HS := Lib.hid hS
  clear hS
  have HT := Lib.hid ht
  clear ht
  conv => arg 2; whnf
  try dsimp only at hK ⊢
  refine wp_region_noPanic ?_
  refine wp_region_held_drew (S := fun W => W.cell? ⟨go, k, none⟩ = some (.int .i64 y) ∧ W.cell? ⟨d, 0, none⟩ = some (.slice (some ⟨g, 0, none⟩) n cap) ∧ W.cell? ⟨g, j * 5, none⟩ = some (.int .i64 z)) (by kernel_rfl) (HS.out _ ((Keeps.refl [] w).drew)) (fun hHeld => ?_)
  obtain ⟨w0, hw0⟩ : ∃ w0, w.drew = w0 := ⟨_, rfl⟩
  try rw [hw0] at hHeld
  rw [hw0]
  have K0 : Keeps [] w w0 := by rw [← hw0]; exact (Keeps.refl [] w).drew
  clear hw0
  refine wpAnyH_take (i := 0) (oi := ⟨some 15, .move (.tmp 5), 3, _, _, none⟩) (v := ?vq4) rfl (by kernel_rfl) (by kernel_rfl) (by kernel_rfl) (fun _ _ _ h => h) (Or.inl ⟨by rfl, fun W hW => ?_⟩) (by assumption) ?_
  rotate_left
  · go_simp
    with_reducible rfl
  try simp only [Act.put, lA, l0, lS]
  refine wpAnyH_take (i := 1) (oi := ⟨some 16, .move (.tmp 3), 42, _, _, none⟩) (v := ?vq5) rfl (by kernel_rfl) (by kernel_rfl) (by kernel_rfl) (fun _ _ _ h => h) (Or.inl ⟨by rfl, fun W hW => ?_⟩) (by assumption) ?_
  rotate_left
  · go_simp
    with_reducible rfl
  try simp only [Act.put, lA, l0, lS]
  refine wpAnyH_take (i := 2) (oi := ⟨some 17, .call { callee := .builtin .len, args := #[.tmp 16], argTypes := #[42] }, 3, _, _, none⟩) (v := ?vq6) rfl (by kernel_rfl) (by kernel_rfl) (by kernel_rfl) (fun _ _ _ h => h) (Or.inl ⟨by rfl, fun W hW => ?_⟩) (by assumption) ?_
  rotate_left
  · go_simp
    with_reducible rfl
  try simp only [Act.put, lA, l0, lS]
  refine wpAnyH_take (i := 3) (oi := ⟨some 18, .binOp .lss 3 (.tmp 15) (.tmp 17) 3, 4, _, _, none⟩) (v := .bool true) rfl (by kernel_rfl) (by kernel_rfl) (by kernel_rfl) (fun _ _ _ h => h) (Or.inl ⟨by rfl, fun W hW => ?_⟩) (by assumption) ?_
  · go_simp
  try simp only [Act.put, lA, l0, lS]
  refine wpAnyH_take (i := 4) (oi := ⟨some 19, .move (.tmp 18), 4, _, _, none⟩) (v := .bool true) rfl (by kernel_rfl) (by kernel_rfl) (by kernel_rfl) (fun _ _ _ h => h) (Or.inl ⟨by rfl, fun W hW => ?_⟩) (by assumption) ?_
  · go_simp
  try simp only [Act.put, lA, l0, lS]
  refine wpAnyH_take (i := 5) (oi := ⟨some 20, .move (.tmp 3), 42, _, _, some (4, true)⟩) (v := ?vq7) rfl (by kernel_rfl) (by kernel_rfl) (by kernel_rfl) (fun _ _ _ h => h) (Or.inl ⟨by rfl, fun W hW => ?_⟩) (by assumption) ?_
  rotate_left
  · go_simp
    with_reducible rfl
  try simp only [Act.put, lA, l0, lS]
  refine wpAnyH_take (i := 6) (oi := ⟨some 21, .move (.tmp 5), 3, _, _, some (4, true)⟩) (v := ?vq8) rfl (by kernel_rfl) (by kernel_rfl) (by kernel_rfl) (fun _ _ _ h => h) (Or.inl ⟨by rfl, fun W hW => ?_⟩) (by assumption) ?_
  rotate_left
  · go_simp
    with_reducible rfl
  try simp only [Act.put, lA, l0, lS]
  refine wpAnyH_take (i := 7) (oi := ⟨some 22, .indexAddr 42 (.tmp 20) (.tmp 21), 0, _, _, some (4, true)⟩) (v := ?vq9) rfl (by kernel_rfl) (by kernel_rfl) (by kernel_rfl) (fun _ _ _ h => h) (Or.inl ⟨by rfl, fun W hW => ?_⟩) (by assumption) ?_
  rotate_left
  · go_simp
    with_reducible rfl
  try simp only [Act.put, lA, l0, lS]
  refine wpAnyH_take (i := 8) (oi := ⟨some 23, .load 3 (.tmp 22), 3, _, _, some (4, true)⟩) (v := .int .i64 y) rfl (by kernel_rfl) (by kernel_rfl) (by kernel_rfl) (fun _ _ _ h => h) (Or.inl ⟨by rfl, fun W hW => ?_⟩) (by assumption) ?_
  · (obtain ⟨a0, a1, a2⟩ := hW; go_simp)
  try simp only [Act.put, lA, l0, lS]
  refine wpAnyH_take (i := 9) (oi := ⟨some 24, .move (.tmp 0), 26, _, _, some (4, true)⟩) (v := ?vq10) rfl (by kernel_rfl) (by kernel_rfl) (by kernel_rfl) (fun _ _ _ h => h) (Or.inl ⟨by rfl, fun W hW => ?_⟩) (by assumption) ?_
  rotate_left
  · go_simp
    with_reducible rfl
  try simp only [Act.put, lA, l0, lS]
  refine wpAnyH_take (i := 10) (oi := ⟨some 25, .nilCheck (.tmp 24), 0, _, _, some (4, true)⟩) (v := ?vq11) rfl (by kernel_rfl) (by kernel_rfl) (by kernel_rfl) (fun _ _ _ h => h) (Or.inl ⟨by rfl, fun W hW => ?_⟩) (by assumption) ?_
  rotate_left
  · go_simp
    with_reducible rfl
  try simp only [Act.put, lA, l0, lS]
  refine wpAnyH_take (i := 11) (oi := ⟨some 26, .fieldAddr 71 (.tmp 25) 0, 0, _, _, some (4, true)⟩) (v := ?vq12) rfl (by kernel_rfl) (by kernel_rfl) (by kernel_rfl) (fun _ _ _ h => h) (Or.inl ⟨by rfl, fun W hW => ?_⟩) (by assumption) ?_
  rotate_left
  · go_simp
    with_reducible rfl
  try simp only [Act.put, lA, l0, lS]
  refine wpAnyH_take (i := 12) (oi := ⟨some 27, .load 69 (.tmp 26), 69, _, _, some (4, true)⟩) (v := .slice (some ⟨g, 0, none⟩) n cap) rfl (by kernel_rfl) (by kernel_rfl) (by kernel_rfl) (fun _ _ _ h => h) (Or.inl ⟨by rfl, fun W hW => ?_⟩) (by assumption) ?_
  · (obtain ⟨a0, a1, a2⟩ := hW; go_simp)
  try simp only [Act.put, lA, l0, lS]
  refine wpAnyH_take (i := 13) (oi := ⟨some 28, .move (.tmp 4), 3, _, _, some (4, true)⟩) (v := ?vq13) rfl (by kernel_rfl) (by kernel_rfl) (by kernel_rfl) (fun _ _ _ h => h) (Or.inl ⟨by rfl, fun W hW => ?_⟩) (by assumption) ?_
  rotate_left
  · go_simp
    with_reducible rfl
  try simp only [Act.put, lA, l0, lS]
  refine wpAnyH_take (i := 14) (oi := ⟨some 29, .indexAddr 69 (.tmp 27) (.tmp 28), 0, _, _, some (4, true)⟩) (v := ?vq14) rfl (by kernel_rfl) (by kernel_rfl) (by kernel_rfl) (fun _ _ _ h => h) (Or.inl ⟨by rfl, fun W hW => ?_⟩) (by assumption) ?_
  rotate_left
  · go_simp
    with_reducible rfl
  try simp only [Act.put, lA, l0, lS]
  refine wpAnyH_take (i := 15) (oi := ⟨some 30, .fieldAddr 68 (.tmp 29) 0, 0, _, _, some (4, true)⟩) (v := ?vq15) rfl (by kernel_rfl) (by kernel_rfl) (by kernel_rfl) (fun _ _ _ h => h) (Or.inl ⟨by rfl, fun W hW => ?_⟩) (by assumption) ?_
  rotate_left
  · go_simp
    with_reducible rfl
  try simp only [Act.put, lA, l0, lS]
  refine wpAnyH_take (i := 16) (oi := ⟨some 31, .load 3 (.tmp 30), 3, _, _, some (4, true)⟩) (v := .int .i64 z) rfl (by kernel_rfl) (by kernel_rfl) (by kernel_rfl) (fun _ _ _ h => h) (Or.inl ⟨by rfl, fun W hW => ?_⟩) (by assumption) ?_
  · (obtain ⟨a0, a1, a2⟩ := hW; go_simp)
  try simp only [Act.put, lA, l0, lS]
  refine wpAnyH_take (i := 17) (oi := ⟨some 32, .binOp .lss 3 (.tmp 23) (.tmp 31) 3, 4, _, _, some (4, true)⟩) (v := .bool t) rfl (by kernel_rfl) (by kernel_rfl) (by kernel_rfl) (fun _ _ _ h => h) (Or.inl ⟨by rfl, fun W hW => ?_⟩) (by assumption) ?_
  · (have b0 := HT.out; go_simp)
  try simp only [Act.put, lA, l0, lS]
  refine wpAnyH_take (i := 18) (oi := ⟨some 33, .pick (.tmp 19) (.tmp 32) (.const (Value.bool false)), 4, _, _, none⟩) (v := .bool t) rfl (by kernel_rfl) (by kernel_rfl) (by kernel_rfl) (fun _ _ _ h => h) (Or.inl ⟨by rfl, fun W hW => ?_⟩) (by assumption) ?_
  · go_simp
  try simp only [Act.put, lA, l0, lS]
  refine wpAnyH_done (by kernel_rfl) ?_ _
  refine NoPanic.normal ?_
  exact hK _ _ _ _ _ _ _ _ _ _ _ _ _ _ _ _ _ _ _ K0
noncomputable def lv8C : Code := ((Tryz.f22.body.bind (theRegion 8)).getD .skip)
set_option maxRecDepth 1000000 in
set_option maxHeartbeats 3200000 in
set_option linter.unusedSimpArgs false in
theorem lv8_any (w : World) (d g n cap j m i c m2 c2 N3 : Nat) (A B : Option Addr) (z : Int) (xs1 xs2 : List Value) (K : Exit → Act → World → Prop) (hi : i ≤ m) (hm : m ≤ 1000000) (hm2 : m2 ≤ m) (hN3 : 0 + i + 1 + m2 = N3)
    (hS : ∀ W, Keeps [] w W → W.cell? ⟨d, 0, none⟩ = some (.slice (some ⟨g, 0, none⟩) n cap) ∧ W.cell? ⟨g, j * 5, none⟩ = some (.int .i64 z)) (i2 : (0 : Int) ≤ (j : Int)) (i3 : (j : Int) < (n : Int))
    (hs1 : ∀ W, (Instr.slice 42 (.slice A m c) none (some (.int .i64 i)) none).run Tryz.prog W = .ok (.slice A i c) W) (hs2 : ∀ W, (Instr.slice 42 (.slice A m c) (some (.int .i64 i)) none none).run Tryz.prog W = .ok (.slice B m2 c2) W)
    (hr1 : ∀ W, Keeps [] w W → Reads W W.heap.size 1 A i xs1) (hr2 : ∀ W, Keeps [] w W → Reads W W.heap.size 1 B m2 xs2) (h1 : ∀ u ∈ xs1, u.oneCell' = true) (h2 : ∀ u ∈ xs2, u.oneCell' = true)
    (u1 u2 u6 u7 u8 u9 u10 u11 u12 u13 u14 u15 u16 u17 u18 u19 u20 u21 u22 u23 u24 u25 u26 u27 u28 u29 u30 u31 u32 u33 u34 u35 u36 u37 u38 u39 u40 u41 u42 u43 u44 u45 u46 u47 u48 u49 u50 u51 u52 u53 u54 u55 : Value)
    (hK : ∀ (v36 v37 v38 v39 v40 v41 v42 v43 v44 v45 v46 v47 v48 v49 v50 v51 v52 v53 v54 : Value) (v3 : Value) (W : World), W.ownsRow 0 3 1 v3 N3 ([] ++ xs1 ++ [.int .i64 z] ++ xs2) → Keeps [] w W → (∀ g ∈ fp v3, w.heap.size ≤ g) → K .normal ⟨#[.pointer (some ⟨d, 0, none⟩), u1, u2, v3, .int .i64 (j : Nat), .int .i64 (i : Nat), u6, u7, u8, u9, u10, u11, u12, u13, u14, u15, u16, u17, u18, u19, u20, u21, u22, u23, u24, u25, u26, u27, u28, u29, u30, u31, u32, u33, u34, u35, v36, v37, v38, v39, v40, v41, v42, v43, v44, v45, v46, v47, v48, v49, v50, v51, v52, v53, v54, u55], []⟩ W) :
    Code.wp Tryz.prog lv8C K ⟨#[.pointer (some ⟨d, 0, none⟩), u1, u2, .slice A m c, .int .i64 (j : Nat), .int .i64 (i : Nat), u6, u7, u8, u9, u10, u11, u12, u13, u14, u15, u16, u17, u18, u19, u20, u21, u22, u23, u24, u25, u26, u27, u28, u29, u30, u31, u32, u33, u34, u35, u36, u37, u38, u39, u40, u41, u42, u43, u44, u45, u46, u47, u48, u49, u50, u51, u52, u53, u54, u55], []⟩ w := by
  have HS := Lib.hid hS
  have HR1 := Lib.hid hr1
  have HR2 := Lib.hid hr2
  have H1 := Lib.hid h1
  have H2 := Lib.hid h2
  have HN3 := Lib.hid hN3
  clear hS hr1 hr2 h1 h2 hN3
  conv => arg 2; whnf
  try dsimp only at hK ⊢
  refine wp_region_noPanic ?_
  refine wp_region_held_drew (S := fun W => W.cell? ⟨d, 0, none⟩ = some (.slice (some ⟨g, 0, none⟩) n cap) ∧ W.cell? ⟨g, j * 5, none⟩ = some (.int .i64 z)) (by kernel_rfl) (HS.out _ ((Keeps.refl [] w).drew)) (fun hHeld => ?_)
  obtain ⟨w0, hw0⟩ : ∃ w0, w.drew = w0 := ⟨_, rfl⟩
  try rw [hw0] at hHeld
  rw [hw0]
  have K0 : Keeps [] w w0 := by rw [← hw0]; exact (Keeps.refl [] w).drew
  clear hw0
  refine wpAnyH_take (i := 1) (oi := ⟨some 37, .move (.tmp 3), 42, _, _, none⟩) (v := ?vq16) rfl (by kernel_rfl) (by kernel_rfl) (by kernel_rfl) (fun _ _ _ h => h) (Or.inl ⟨by rfl, fun W hW => ?_⟩) (by assumption) ?_
  rotate_left
  · go_simp
    with_reducible rfl
  try simp only [Act.put, lA, l0, lS]
  refine wpAnyH_take (i := 2) (oi := ⟨some 38, .move (.tmp 5), 3, _, _, none⟩) (v := ?vq17) rfl (by kernel_rfl) (by kernel_rfl) (by kernel_rfl) (fun _ _ _ h => h) (Or.inl ⟨by rfl, fun W hW => ?_⟩) (by assumption) ?_
  rotate_left
  · go_simp
    with_reducible rfl
  try simp only [Act.put, lA, l0, lS]
  refine wpAnyH_take (i := 3) (oi := ⟨some 39, .slice 42 (.tmp 37) none (some (.tmp 38)) none, 42, _, _, none⟩) (v := .slice A i c) rfl (by kernel_rfl) (by kernel_rfl) (by kernel_rfl) (fun _ _ _ h => h) (Or.inl ⟨by rfl, fun W hW => ?_⟩) (by assumption) ?_
  · go_simp
  try simp only [Act.put, lA, l0, lS]
  refine wpAnyH_take (i := 5) (oi := ⟨some 41, .move (.tmp 0), 26, _, _, none⟩) (v := ?vq18) rfl (by kernel_rfl) (by kernel_rfl) (by kernel_rfl) (fun _ _ _ h => h) (Or.inl ⟨by rfl, fun W hW => ?_⟩) (by assumption) ?_
  rotate_left
  · go_simp
    with_reducible rfl
  try simp only [Act.put, lA, l0, lS]
  refine wpAnyH_take (i := 6) (oi := ⟨some 42, .nilCheck (.tmp 41), 0, _, _, none⟩) (v := ?vq19) rfl (by kernel_rfl) (by kernel_rfl) (by kernel_rfl) (fun _ _ _ h => h) (Or.inl ⟨by rfl, fun W hW => ?_⟩) (by assumption) ?_
  rotate_left
  · go_simp
    with_reducible rfl
  try simp only [Act.put, lA, l0, lS]
  refine wpAnyH_take (i := 7) (oi := ⟨some 43, .fieldAddr 71 (.tmp 42) 0, 0, _, _, none⟩) (v := ?vq20) rfl (by kernel_rfl) (by kernel_rfl) (by kernel_rfl) (fun _ _ _ h => h) (Or.inl ⟨by rfl, fun W hW => ?_⟩) (by assumption) ?_
  rotate_left
  · go_simp
    with_reducible rfl
  try simp only [Act.put, lA, l0, lS]
  refine wpAnyH_take (i := 8) (oi := ⟨some 44, .load 69 (.tmp 43), 69, _, _, none⟩) (v := .slice (some ⟨g, 0, none⟩) n cap) rfl (by kernel_rfl) (by kernel_rfl) (by kernel_rfl) (fun _ _ _ h => h) (Or.inl ⟨by rfl, fun W hW => ?_⟩) (by assumption) ?_
  · (obtain ⟨a0, a1⟩ := hW; go_simp)
  try simp only [Act.put, lA, l0, lS]
  refine wpAnyH_take (i := 9) (oi := ⟨some 45, .move (.tmp 4), 3, _, _, none⟩) (v := ?vq21) rfl (by kernel_rfl) (by kernel_rfl) (by kernel_rfl) (fun _ _ _ h => h) (Or.inl ⟨by rfl, fun W hW => ?_⟩) (by assumption) ?_
  rotate_left
  · go_simp
    with_reducible rfl
  try simp only [Act.put, lA, l0, lS]
  refine wpAnyH_take (i := 10) (oi := ⟨some 46, .indexAddr 69 (.tmp 44) (.tmp 45), 0, _, _, none⟩) (v := ?vq22) rfl (by kernel_rfl) (by kernel_rfl) (by kernel_rfl) (fun _ _ _ h => h) (Or.inl ⟨by rfl, fun W hW => ?_⟩) (by assumption) ?_
  rotate_left
  · go_simp
    with_reducible rfl
  try simp only [Act.put, lA, l0, lS]
  refine wpAnyH_take (i := 11) (oi := ⟨some 47, .fieldAddr 68 (.tmp 46) 0, 0, _, _, none⟩) (v := ?vq23) rfl (by kernel_rfl) (by kernel_rfl) (by kernel_rfl) (fun _ _ _ h => h) (Or.inl ⟨by rfl, fun W hW => ?_⟩) (by assumption) ?_
  rotate_left
  · go_simp
    with_reducible rfl
  try simp only [Act.put, lA, l0, lS]
  refine wpAnyH_take (i := 12) (oi := ⟨some 48, .load 3 (.tmp 47), 3, _, _, none⟩) (v := .int .i64 z) rfl (by kernel_rfl) (by kernel_rfl) (by kernel_rfl) (fun _ _ _ h => h) (Or.inl ⟨by rfl, fun W hW => ?_⟩) (by assumption) ?_
  · (obtain ⟨a0, a1⟩ := hW; go_simp)
  try simp only [Act.put, lA, l0, lS]
  refine wpAnyH_take (i := 15) (oi := ⟨some 51, .move (.tmp 3), 42, _, _, none⟩) (v := ?vq24) rfl (by kernel_rfl) (by kernel_rfl) (by kernel_rfl) (fun _ _ _ h => h) (Or.inl ⟨by rfl, fun W hW => ?_⟩) (by assumption) ?_
  rotate_left
  · go_simp
    with_reducible rfl
  try simp only [Act.put, lA, l0, lS]
  refine wpAnyH_take (i := 16) (oi := ⟨some 52, .move (.tmp 5), 3, _, _, none⟩) (v := ?vq25) rfl (by kernel_rfl) (by kernel_rfl) (by kernel_rfl) (fun _ _ _ h => h) (Or.inl ⟨by rfl, fun W hW => ?_⟩) (by assumption) ?_
  rotate_left
  · go_simp
    with_reducible rfl
  try simp only [Act.put, lA, l0, lS]
  refine wpAnyH_take (i := 17) (oi := ⟨some 53, .slice 42 (.tmp 51) (some (.tmp 52)) none none, 42, _, _, none⟩) (v := .slice B m2 c2) rfl (by kernel_rfl) (by kernel_rfl) (by kernel_rfl) (fun _ _ _ h => h) (Or.inl ⟨by rfl, fun W hW => ?_⟩) (by assumption) ?_
  · go_simp
  try simp only [Act.put, lA, l0, lS]
  refine wpAnyH_ready (rs := [0, 13]) (by kernel_rfl) (by simp) ?_
  refine AllReadyH.cons (o := ⟨some 36, .buildSlice 42 0 #[], 42, _, _, none⟩) rfl (fun KK hKK => ?_) (AllReadyH.cons (o := ⟨some 49, .buildSlice 42 1 #[(0, .tmp 48)], 42, _, _, none⟩) rfl (fun KK hKK => ?_) AllReadyH.nil)
  · go_simp
    obtain ⟨b27, f31⟩ : ∃ b, w0.heap.size = b := ⟨_, rfl⟩
    rw [f31]
    obtain ⟨W26, e30⟩ : ∃ W, World.alloc w0 (.cells #[] 3) = W := ⟨_, rfl⟩
    rw [e30]
    have kk28 : Keeps [] w0 W26 := by rw [← e30]; exact (Keeps.refl [] _).alloc _
    have K29 : Keeps [] w W26 := K0.trans kk28 (by simp)
    have ob32 : W26.ownsRow 0 3 1 (.slice (some ⟨b27, 0, none⟩) 0 0) 0 ([] : List Value) := by rw [← e30, ← f31]; exact own_of_blk (Blk.new _ 3 #[]) (by omega) (by omega) rfl rfl
    have ge33 : ∀ g ∈ fp (.slice (some ⟨b27, 0, none⟩) 0 0), w.heap.size ≤ g := by have := K0.size; intro g hg; have h0 : g = b27 := (by simpa [fp, Value.ownBlock] using hg); omega
    refine hKK.out _ _ (HS.out _ K29) (fun hHeld => ?_)
    clear hKK KK e30 f31
    try simp only [Act.put, lA, l0, lS]
    refine wpAnyH_ready (rs := [4, 13]) (by kernel_rfl) (by simp) ?_
    refine AllReadyH.cons (o := ⟨some 40, .call { callee := .builtin .append, args := #[.tmp 36, .tmp 39], argTypes := #[42, 42] }, 42, _, _, none⟩) rfl (fun KK hKK => ?_) (AllReadyH.cons (o := ⟨some 49, .buildSlice 42 1 #[(0, .tmp 48)], 42, _, _, none⟩) rfl (fun KK hKK => ?_) AllReadyH.nil)
    · refine step_app (by rfl) (.tmp 36) (.tmp 39) 42 (by rfl) 3 (.int .i64 0) 1 8 Tryz.underlying42 info3w rfl (by omega) (.slice (some ⟨b27, 0, none⟩) 0 0) 0 (([] : List Value)) ?_ ob32 _ A i c (xs1) ?_ (HR1.out _ K29) H1.out (by unfold maxLen; omega) (by omega) (fun v35 W34 ob36 kk37 f38 => ?_)
      · first | (simp [Act.eval]; done) | (simp [Act.eval, Act.put]; done)
      · first | (simp [Act.eval]; done) | (simp [Act.eval, Act.put]; done)
      have K39 : Keeps [] w W34 := K29.trans kk37 (fun g hg => .inr (ge33 g hg))
      have ge40 : ∀ g ∈ fp v35, w.heap.size ≤ g := ges_app f38 ge33 K29.size
      refine hKK.out _ _ (HS.out _ K39) (fun hHeld => ?_)
      clear hKK KK
      try simp only [Act.put, lA, l0, lS]
      refine wpAnyH_ready (rs := [13]) (by kernel_rfl) (by simp) ?_
      refine AllReadyH.cons (o := ⟨some 49, .buildSlice 42 1 #[(0, .tmp 48)], 42, _, _, none⟩) rfl (fun KK hKK => ?_) AllReadyH.nil
      go_simp
      obtain ⟨b42, f46⟩ : ∃ b, W34.heap.size = b := ⟨_, rfl⟩
      rw [f46]
      obtain ⟨W41, e45⟩ : ∃ W, World.alloc W34 (.cells #[.int .i64 z] 3) = W := ⟨_, rfl⟩
      rw [e45]
      have kk43 : Keeps [] W34 W41 := by rw [← e45]; exact (Keeps.refl [] _).alloc _
      have K44 : Keeps [] w W41 := K39.trans kk43 (by simp)
      have d49 : ∀ g ∈ fp v35, g ∉ [b42] := by rw [← f46]; exact off_new (own_lts ob36)
      have ob50 := own_keep ob36 kk43 (by simp)
      have ob47 : Blk W41 b42 3 #[.int .i64 z] := by rw [← e45, ← f46]; exact Blk.new _ _ _
      have ge48 : ∀ g ∈ [b42], w.heap.size ≤ g := by have := K39.size; intro g hg; rw [List.mem_singleton.1 hg]; omega
      refine hKK.out _ _ (HS.out _ K44) (fun hHeld => ?_)
      clear hKK KK e45 f46
      try simp only [Act.put, lA, l0, lS]
      refine wpAnyH_ready (rs := [14]) (by kernel_rfl) (by simp) ?_
      refine AllReadyH.cons (o := ⟨some 50, .call { callee := .builtin .append, args := #[.tmp 40, .tmp 49], argTypes := #[42, 42] }, 42, _, _, none⟩) rfl (fun KK hKK => ?_) AllReadyH.nil
      refine step_app (by rfl) (.tmp 40) (.tmp 49) 42 (by rfl) 3 (.int .i64 0) 1 8 Tryz.underlying42 info3w rfl (by omega) v35 (0 + i) ([] ++ xs1) ?_ ob50 _ (some ⟨b42, 0, none⟩) 1 1 ([.int .i64 z]) ?_ (reads_blk ob47 rfl rfl) (by simp [Value.oneCell']) (by unfold maxLen; omega) (by omega) (fun v52 W51 ob53 kk54 f55 => ?_)
      · first | (simp [Act.eval]; done) | (simp [Act.eval, Act.put]; done)
      · first | (simp [Act.eval]; done) | (simp [Act.eval, Act.put]; done)
      have K56 : Keeps [] w W51 := K44.trans kk54 (fun g hg => .inr (ge40 g hg))
      have ge57 : ∀ g ∈ fp v52, w.heap.size ≤ g := ges_app f55 ge40 K44.size
      have d58 : ∀ g ∈ fp v52, g ∉ [b42] := off_app f55 d49 ob47.lts
      have ob59 := ob47.keep kk54 (fun h0 => d49 _ h0 (by simp))
      refine hKK.out _ _ (HS.out _ K56) (fun hHeld => ?_)
      clear hKK KK
      try simp only [Act.put, lA, l0, lS]
      refine wpAnyH_ready (rs := [18]) (by kernel_rfl) (by simp) ?_
      refine AllReadyH.cons (o := ⟨some 54, .call { callee := .builtin .append, args := #[.tmp 50, .tmp 53], argTypes := #[42, 42] }, 42, _, _, none⟩) rfl (fun KK hKK => ?_) AllReadyH.nil
      refine step_app (by rfl) (.tmp 50) (.tmp 53) 42 (by rfl) 3 (.int .i64 0) 1 8 Tryz.underlying42 info3w rfl (by omega) v52 (0 + i + 1) ([] ++ xs1 ++ [.int .i64 z]) ?_ ob53 _ B m2 c2 (xs2) ?_ (HR2.out _ K56) H2.out (by unfold maxLen; omega) (by omega) (fun v61 W60 ob62 kk63 f64 => ?_)
      · first | (simp [Act.eval]; done) | (simp [Act.eval, Act.put]; done)
      · first | (simp [Act.eval]; done) | (simp [Act.eval, Act.put]; done)
      have K65 : Keeps [] w W60 := K56.trans kk63 (fun g hg => .inr (ge57 g hg))
      have ge66 : ∀ g ∈ fp v61, w.heap.size ≤ g := ges_app f64 ge57 K56.size
      have d67 : ∀ g ∈ fp v61, g ∉ [b42] := off_app f64 d58 ob59.lts
      have ob68 := ob59.keep kk63 (fun h0 => d58 _ h0 (by simp))
      rw [HN3.out] at ob62
      obtain ⟨A69, c70, rfl, -, -, -⟩ := own_shape ob62
      refine hKK.out _ _ (HS.out _ K65) (fun hHeld => ?_)
      clear hKK KK
      try simp only [Act.put, lA, l0, lS]
      refine wpAnyH_take (i := 19) (oi := ⟨some 3, .assign (.tmp 54), 42, _, _, none⟩) (v := ?vq71) rfl (by kernel_rfl) (by kernel_rfl) (by kernel_rfl) (fun _ _ _ h => h) (Or.inl ⟨by rfl, fun W hW => ?_⟩) (by assumption) ?_
      rotate_left
      · go_simp
        with_reducible rfl
      try simp only [Act.put, lA, l0, lS]
      refine wpAnyH_done (by kernel_rfl) ?_ _
      refine NoPanic.normal ?_
      exact hK _ _ _ _ _ _ _ _ _ _ _ _ _ _ _ _ _ _ _ (.slice A69 N3 c70) W60 ob62 K65 ge66
    · go_simp
      obtain ⟨b73, f77⟩ : ∃ b, W26.heap.size = b := ⟨_, rfl⟩
      rw [f77]
      obtain ⟨W72, e76⟩ : ∃ W, World.alloc W26 (.cells #[.int .i64 z] 3) = W := ⟨_, rfl⟩
      rw [e76]
      have kk74 : Keeps [] W26 W72 := by rw [← e76]; exact (Keeps.refl [] _).alloc _
      have K75 : Keeps [] w W72 := K29.trans kk74 (by simp)
      have d80 : ∀ g ∈ fp (.slice (some ⟨b27, 0, none⟩) 0 0), g ∉ [b73] := by rw [← f77]; exact off_new (own_lts ob32)
      have ob81 := own_keep ob32 kk74 (by simp)
      have ob78 : Blk W72 b73 3 #[.int .i64 z] := by rw [← e76, ← f77]; exact Blk.new _ _ _
      have ge79 : ∀ g ∈ [b73], w.heap.size ≤ g := by have := K29.size; intro g hg; rw [List.mem_singleton.1 hg]; omega
      refine hKK.out _ _ (HS.out _ K75) (fun hHeld => ?_)
      clear hKK KK e76 f77
      try simp only [Act.put, lA, l0, lS]
      refine wpAnyH_ready (rs := [4]) (by kernel_rfl) (by simp) ?_
      refine AllReadyH.cons (o := ⟨some 40, .call { callee := .builtin .append, args := #[.tmp 36, .tmp 39], argTypes := #[42, 42] }, 42, _, _, none⟩) rfl (fun KK hKK => ?_) AllReadyH.nil
      refine step_app (by rfl) (.tmp 36) (.tmp 39) 42 (by rfl) 3 (.int .i64 0) 1 8 Tryz.underlying42 info3w rfl (by omega) (.slice (some ⟨b27, 0, none⟩) 0 0) 0 (([] : List Value)) ?_ ob81 _ A i c (xs1) ?_ (HR1.out _ K75) H1.out (by unfold maxLen; omega) (by omega) (fun v83 W82 ob84 kk85 f86 => ?_)
      · first | (simp [Act.eval]; done) | (simp [Act.eval, Act.put]; done)
      · first | (simp [Act.eval]; done) | (simp [Act.eval, Act.put]; done)
      have K87 : Keeps [] w W82 := K75.trans kk85 (fun g hg => .inr (ge33 g hg))
      have ge88 : ∀ g ∈ fp v83, w.heap.size ≤ g := ges_app f86 ge33 K75.size
      have d89 : ∀ g ∈ fp v83, g ∉ [b73] := off_app f86 d80 ob78.lts
      have ob90 := ob78.keep kk85 (fun h0 => d80 _ h0 (by simp))
      refine hKK.out _ _ (HS.out _ K87) (fun hHeld => ?_)
      clear hKK KK
      try simp only [Act.put, lA, l0, lS]
      refine wpAnyH_ready (rs := [14]) (by kernel_rfl) (by simp) ?_
      refine AllReadyH.cons (o := ⟨some 50, .call { callee := .builtin .append, args := #[.tmp 40, .tmp 49], argTypes := #[42, 42] }, 42, _, _, none⟩) rfl (fun KK hKK => ?_) AllReadyH.nil
      refine step_app (by rfl) (.tmp 40) (.tmp 49) 42 (by rfl) 3 (.int .i64 0) 1 8 Tryz.underlying42 info3w rfl (by omega) v83 (0 + i) ([] ++ xs1) ?_ ob84 _ (some ⟨b73, 0, none⟩) 1 1 ([.int .i64 z]) ?_ (reads_blk ob90 rfl rfl) (by simp [Value.oneCell']) (by unfold maxLen; omega) (by omega) (fun v92 W91 ob93 kk94 f95 => ?_)
      · first | (simp [Act.eval]; done) | (simp [Act.eval, Act.put]; done)
      · first | (simp [Act.eval]; done) | (simp [Act.eval, Act.put]; done)
      have K96 : Keeps [] w W91 := K87.trans kk94 (fun g hg => .inr (ge88 g hg))
      have ge97 : ∀ g ∈ fp v92, w.heap.size ≤ g := ges_app f95 ge88 K87.size
      have d98 : ∀ g ∈ fp v92, g ∉ [b73] := off_app f95 d89 ob90.lts
      have ob99 := ob90.keep kk94 (fun h0 => d89 _ h0 (by simp))
      refine hKK.out _ _ (HS.out _ K96) (fun hHeld => ?_)
      clear hKK KK
      try simp only [Act.put, lA, l0, lS]
      refine wpAnyH_ready (rs := [18]) (by kernel_rfl) (by simp) ?_
      refine AllReadyH.cons (o := ⟨some 54, .call { callee := .builtin .append, args := #[.tmp 50, .tmp 53], argTypes := #[42, 42] }, 42, _, _, none⟩) rfl (fun KK hKK => ?_) AllReadyH.nil
      refine step_app (by rfl) (.tmp 50) (.tmp 53) 42 (by rfl) 3 (.int .i64 0) 1 8 Tryz.underlying42 info3w rfl (by omega) v92 (0 + i + 1) ([] ++ xs1 ++ [.int .i64 z]) ?_ ob93 _ B m2 c2 (xs2) ?_ (HR2.out _ K96) H2.out (by unfold maxLen; omega) (by omega) (fun v101 W100 ob102 kk103 f104 => ?_)
      · first | (simp [Act.eval]; done) | (simp [Act.eval, Act.put]; done)
      · first | (simp [Act.eval]; done) | (simp [Act.eval, Act.put]; done)
      have K105 : Keeps [] w W100 := K96.trans kk103 (fun g hg => .inr (ge97 g hg))
      have ge106 : ∀ g ∈ fp v101, w.heap.size ≤ g := ges_app f104 ge97 K96.size
      have d107 : ∀ g ∈ fp v101, g ∉ [b73] := off_app f104 d98 ob99.lts
      have ob108 := ob99.keep kk103 (fun h0 => d98 _ h0 (by simp))
      rw [HN3.out] at ob102
      obtain ⟨A109, c110, rfl, -, -, -⟩ := own_shape ob102
      refine hKK.out _ _ (HS.out _ K105) (fun hHeld => ?_)
      clear hKK KK
      try simp only [Act.put, lA, l0, lS]
      refine wpAnyH_take (i := 19) (oi := ⟨some 3, .assign (.tmp 54), 42, _, _, none⟩) (v := ?vq111) rfl (by kernel_rfl) (by kernel_rfl) (by kernel_rfl) (fun _ _ _ h => h) (Or.inl ⟨by rfl, fun W hW => ?_⟩) (by assumption) ?_
      rotate_left
      · go_simp
        with_reducible rfl
      try simp only [Act.put, lA, l0, lS]
      refine wpAnyH_done (by kernel_rfl) ?_ _
      refine NoPanic.normal ?_
      exact hK _ _ _ _ _ _ _ _ _ _ _ _ _ _ _ _ _ _ _ (.slice A109 N3 c110) W100 ob102 K105 ge106
  · go_simp
    obtain ⟨b113, f117⟩ : ∃ b, w0.heap.size = b := ⟨_, rfl⟩
    rw [f117]
    obtain ⟨W112, e116⟩ : ∃ W, World.alloc w0 (.cells #[.int .i64 z] 3) = W := ⟨_, rfl⟩
    rw [e116]
    have kk114 : Keeps [] w0 W112 := by rw [← e116]; exact (Keeps.refl [] _).alloc _
    have K115 : Keeps [] w W112 := K0.trans kk114 (by simp)
    have ob118 : Blk W112 b113 3 #[.int .i64 z] := by rw [← e116, ← f117]; exact Blk.new _ _ _
    have ge119 : ∀ g ∈ [b113], w.heap.size ≤ g := by have := K0.size; intro g hg; rw [List.mem_singleton.1 hg]; omega
    refine hKK.out _ _ (HS.out _ K115) (fun hHeld => ?_)
    clear hKK KK e116 f117
    try simp only [Act.put, lA, l0, lS]
    refine wpAnyH_ready (rs := [0]) (by kernel_rfl) (by simp) ?_
    refine AllReadyH.cons (o := ⟨some 36, .buildSlice 42 0 #[], 42, _, _, none⟩) rfl (fun KK hKK => ?_) AllReadyH.nil
    go_simp
    obtain ⟨b121, f125⟩ : ∃ b, W112.heap.size = b := ⟨_, rfl⟩
    rw [f125]
    obtain ⟨W120, e124⟩ : ∃ W, World.alloc W112 (.cells #[] 3) = W := ⟨_, rfl⟩
    rw [e124]
    have kk122 : Keeps [] W112 W120 := by rw [← e124]; exact (Keeps.refl [] _).alloc _
    have K123 : Keeps [] w W120 := K115.trans kk122 (by simp)
    have d128 : ∀ g ∈ [b113], g ∉ [b121] := by rw [← f125]; exact off_new ob118.lts
    have ob129 := ob118.keep kk122 (by simp)
    have ob126 : W120.ownsRow 0 3 1 (.slice (some ⟨b121, 0, none⟩) 0 0) 0 ([] : List Value) := by rw [← e124, ← f125]; exact own_of_blk (Blk.new _ 3 #[]) (by omega) (by omega) rfl rfl
    have ge127 : ∀ g ∈ fp (.slice (some ⟨b121, 0, none⟩) 0 0), w.heap.size ≤ g := by have := K115.size; intro g hg; have h0 : g = b121 := (by simpa [fp, Value.ownBlock] using hg); omega
    refine hKK.out _ _ (HS.out _ K123) (fun hHeld => ?_)
    clear hKK KK e124 f125
    try simp only [Act.put, lA, l0, lS]
    refine wpAnyH_ready (rs := [4]) (by kernel_rfl) (by simp) ?_
    refine AllReadyH.cons (o := ⟨some 40, .call { callee := .builtin .append, args := #[.tmp 36, .tmp 39], argTypes := #[42, 42] }, 42, _, _, none⟩) rfl (fun KK hKK => ?_) AllReadyH.nil
    refine step_app (by rfl) (.tmp 36) (.tmp 39) 42 (by rfl) 3 (.int .i64 0) 1 8 Tryz.underlying42 info3w rfl (by omega) (.slice (some ⟨b121, 0, none⟩) 0 0) 0 (([] : List Value)) ?_ ob126 _ A i c (xs1) ?_ (HR1.out _ K123) H1.out (by unfold maxLen; omega) (by omega) (fun v131 W130 ob132 kk133 f134 => ?_)
    · first | (simp [Act.eval]; done) | (simp [Act.eval, Act.put]; done)
    · first | (simp [Act.eval]; done) | (simp [Act.eval, Act.put]; done)
    have K135 : Keeps [] w W130 := K123.trans kk133 (fun g hg => .inr (ge127 g hg))
    have ge136 : ∀ g ∈ fp v131, w.heap.size ≤ g := ges_app f134 ge127 K123.size
    have d137 : ∀ g ∈ fp v131, g ∉ [b113] := off_app f134 (off_symm d128) ob129.lts
    have ob138 := ob129.keep kk133 (fun h0 => (off_symm d128) _ h0 (by simp))
    refine hKK.out _ _ (HS.out _ K135) (fun hHeld => ?_)
    clear hKK KK
    try simp only [Act.put, lA, l0, lS]
    refine wpAnyH_ready (rs := [14]) (by kernel_rfl) (by simp) ?_
    refine AllReadyH.cons (o := ⟨some 50, .call { callee := .builtin .append, args := #[.tmp 40, .tmp 49], argTypes := #[42, 42] }, 42, _, _, none⟩) rfl (fun KK hKK => ?_) AllReadyH.nil
    refine step_app (by rfl) (.tmp 40) (.tmp 49) 42 (by rfl) 3 (.int .i64 0) 1 8 Tryz.underlying42 info3w rfl (by omega) v131 (0 + i) ([] ++ xs1) ?_ ob132 _ (some ⟨b113, 0, none⟩) 1 1 ([.int .i64 z]) ?_ (reads_blk ob138 rfl rfl) (by simp [Value.oneCell']) (by unfold maxLen; omega) (by omega) (fun v140 W139 ob141 kk142 f143 => ?_)
    · first | (simp [Act.eval]; done) | (simp [Act.eval, Act.put]; done)
    · first | (simp [Act.eval]; done) | (simp [Act.eval, Act.put]; done)
    have K144 : Keeps [] w W139 := K135.trans kk142 (fun g hg => .inr (ge136 g hg))
    have ge145 : ∀ g ∈ fp v140, w.heap.size ≤ g := ges_app f143 ge136 K135.size
    have d146 : ∀ g ∈ fp v140, g ∉ [b113] := off_app f143 d137 ob138.lts
    have ob147 := ob138.keep kk142 (fun h0 => d137 _ h0 (by simp))
    refine hKK.out _ _ (HS.out _ K144) (fun hHeld => ?_)
    clear hKK KK
    try simp only [Act.put, lA, l0, lS]
    refine wpAnyH_ready (rs := [18]) (by kernel_rfl) (by simp) ?_
    refine AllReadyH.cons (o := ⟨some 54, .call { callee := .builtin .append, args := #[.tmp 50, .tmp 53], argTypes := #[42, 42] }, 42, _, _, none⟩) rfl (fun KK hKK => ?_) AllReadyH.nil
    refine step_app (by rfl) (.tmp 50) (.tmp 53) 42 (by rfl) 3 (.int .i64 0) 1 8 Tryz.underlying42 info3w rfl (by omega) v140 (0 + i + 1) ([] ++ xs1 ++ [.int .i64 z]) ?_ ob141 _ B m2 c2 (xs2) ?_ (HR2.out _ K144) H2.out (by unfold maxLen; omega) (by omega) (fun v149 W148 ob150 kk151 f152 => ?_)
    · first | (simp [Act.eval]; done) | (simp [Act.eval, Act.put]; done)
    · first | (simp [Act.eval]; done) | (simp [Act.eval, Act.put]; done)
    have K153 : Keeps [] w W148 := K144.trans kk151 (fun g hg => .inr (ge145 g hg))
    have ge154 : ∀ g ∈ fp v149, w.heap.size ≤ g := ges_app f152 ge145 K144.size
    have d155 : ∀ g ∈ fp v149, g ∉ [b113] := off_app f152 d146 ob147.lts
    have ob156 := ob147.keep kk151 (fun h0 => d146 _ h0 (by simp))
    rw [HN3.out] at ob150
    obtain ⟨A157, c158, rfl, -, -, -⟩ := own_shape ob150
    refine hKK.out _ _ (HS.out _ K153) (fun hHeld => ?_)
    clear hKK KK
    try simp only [Act.put, lA, l0, lS]
    refine wpAnyH_take (i := 19) (oi := ⟨some 3, .assign (.tmp 54), 42, _, _, none⟩) (v := ?vq159) rfl (by kernel_rfl) (by kernel_rfl) (by kernel_rfl) (fun _ _ _ h => h) (Or.inl ⟨by rfl, fun W hW => ?_⟩) (by assumption) ?_
    rotate_left
    · go_simp
      with_reducible rfl
    try simp only [Act.put, lA, l0, lS]
    refine wpAnyH_done (by kernel_rfl) ?_ _
    refine NoPanic.normal ?_
    exact hK _ _ _ _ _ _ _ _ _ _ _ _ _ _ _ _ _ _ _ (.slice A157 N3 c158) W148 ob150 K153 ge154
theorem run_take42 (A : Option Addr) (n c i : Nat) (hi : i ≤ n) (hc : n ≤ c) (W : World) : (Instr.slice 42 (.slice A n c) none (some (.int .i64 i)) none).run Tryz.prog W = .ok (.slice A i c) W := by
  have hp : (i : Int) ≤ c := by omega
  have h0 : (0 : Int) ≤ i := by omega
  go_simp
theorem run_drop42 (A : Option Addr) (n c i : Nat) (hi : i ≤ n) (W : World) : (Instr.slice 42 (.slice A n c) (some (.int .i64 i)) none none).run Tryz.prog W = .ok (.slice (if c = i then A else A.map (·.add i)) (n - i) (c - i)) W := by
  have hp : (i : Int) ≤ n := by omega
  have h0 : (0 : Int) ≤ i := by omega
  go_simp
theorem asc_insert {l : List Int} {z : Int} {k : Nat} (hl : AscI l) (hlt : ∀ j (h : j < l.length), j < k → l[j] < z) (hex : ∀ h : k < l.length, ¬ l[k] < z) (hz : z ∉ l) : AscI (l.take k ++ z :: l.drop k) := by
  have hl2 : List.Pairwise (· < ·) (l.take k ++ l.drop k) := by rw [List.take_append_drop]; exact hl
  obtain ⟨h1, h2, h3⟩ := List.pairwise_append.1 hl2
  have hgt : ∀ y ∈ l.drop k, z < y := by
    intro y hy
    obtain ⟨j, hj, rfl⟩ := List.mem_iff_getElem.1 hy
    rw [List.length_drop] at hj
    rw [List.getElem_drop]
    have hk : k < l.length := by omega
    have h4 := hex hk
    have h5 : l[k] ≠ z := fun e => hz (by rw [← e]; exact List.getElem_mem hk)
    rcases Nat.eq_zero_or_pos j with rfl | hj0
    · have : z < l[k] := by omega
      simpa using this
    · have h6 := List.pairwise_iff_getElem.1 hl k (k + j) hk (by omega) (by omega)
      omega
  refine List.pairwise_append.2 ⟨h1, List.pairwise_cons.2 ⟨hgt, h2⟩, fun x hx y hy => ?_⟩
  rcases List.mem_cons.1 hy with rfl | hy
  · obtain ⟨j, hj, rfl⟩ := List.mem_iff_getElem.1 hx
    rw [List.length_take] at hj
    rw [List.getElem_take]
    exact hlt j (by omega) (by omega)
  · exact h3 x hx y hy
set_option maxRecDepth 100000 in
set_option maxHeartbeats 12800000 in
theorem rLive_any {w : World} {d : Nat} {F G : List Nat} {C : St} (h : Rf w d F G C) (hT : Tree C) (hl : C.length ≤ 900000) :
    Calls Tryz.prog 22 #[.pointer (some ⟨d, 0, none⟩)] w fun e w' => (∃ v, e = .returned v ∧ w'.ownsRow 0 3 1 v (liveP C).length (zs (liveP C))) ∧ Keeps [] w w' := by
  have hR0 := hT.row0
  obtain ⟨h0, e0⟩ := hR0.first
  obtain ⟨A, cap, ms, h⟩ := h
  obtain ⟨x0, hx0⟩ : ∃ x0, C.reverse[0] = x0 := ⟨_, rfl⟩
  obtain ⟨g, rfl, -⟩ := h.cellsX h0 hx0
  have f0 := h.b.cell 0
  obtain ⟨R, hR⟩ : ∃ R, C.reverse = R := ⟨_, rfl⟩
  have hRL : R.length = C.length := by rw [← hR, List.length_reverse]
  have HINJ : Hid (∀ j k (hj : j < R.length) (hk : k < R.length), R[j].id = R[k].id → j = k) := Lib.hid (by rw [← hR]; exact fun j k hj hk => hR0.inj hj hk)
  have HPOS : Hid (∀ k (hk : k < R.length), 1 ≤ k → R[k].id ≠ 0) := Lib.hid (by
    rw [← hR]
    exact fun k hk h1 e => by have := (hR0.zero hk).2 e; omega)
  have HZERO : Hid (∀ k (hk : k < R.length), R[k].id ≠ 0 → 1 ≤ k) := Lib.hid (by
    rw [← hR]
    exact fun k hk h1 => by
      rcases Nat.eq_zero_or_pos k with h | h
      · exact absurd ((hR0.zero hk).1 h) h1
      · exact h)
  have HCEL : Hid (∀ X, Keeps [] w X → X.cell? ⟨d, 0, none⟩ = some (.slice (some ⟨g, 0, none⟩) C.length cap) ∧ ∀ j (hj : j < R.length), X.cell? ⟨g, j * 5, none⟩ = some (.int .i64 R[j].id)) := Lib.hid (fun X hk => by
    have hm := h.keep0 hk
    refine ⟨hm.b.cell 0, ?_⟩
    rw [← hR]
    intro j hj
    obtain ⟨g', e, c0, -⟩ := hm.cellsX hj rfl
    injection e with e
    injection e with e1
    subst e1
    exact c0)
  have HLIVE : Hid (∀ l : List Int, AscI l → (∀ z, z ∈ l ↔ ∃ j, ∃ hj : j < R.length, 1 ≤ j ∧ R[j].id = z) → l = liveP C) := Lib.hid (fun l h1 h2 => by
    obtain ⟨h3, h4⟩ := live_ok hT
    refine ascI_ext h1 h3 (fun z => ?_)
    rw [h2, h4, has_iff]
    constructor
    · rintro ⟨j, hj, hj1, rfl⟩
      exact ⟨HPOS.out j hj hj1, R[j], by rw [← List.mem_reverse, hR]; exact List.getElem_mem hj, rfl⟩
    · rintro ⟨hz, x, hx, rfl⟩
      rw [← List.mem_reverse, hR] at hx
      obtain ⟨j, hj, rfl⟩ := List.mem_iff_getElem.1 hx
      exact ⟨j, hj, HZERO.out j hj hz, rfl⟩)
  have hn1 : 1 ≤ C.length := by rw [← List.length_reverse]; omega
  obtain ⟨V, hV⟩ : ∃ V, liveP C = V := ⟨_, rfl⟩
  rw [hV] at HLIVE ⊢
  obtain ⟨n, hn⟩ : ∃ n, C.length = n := ⟨_, rfl⟩
  rw [hn] at f0 HCEL hRL hl hn1
  have HRL := Lib.hid hRL
  clear h hR hRL hx0 e0 h0 hV hn hR0 hT
  go_enter Tryz.func22, Tryz.ntmps22
  go_wp2_with fail
  clear f0
  go_loopw [3, 4, 5] (fun vo iv _ wr => ∃ (i : Nat) (out : List Int), 1 ≤ i ∧ i ≤ n ∧ iv = .int .i64 i ∧ wr.ownsRow 0 3 1 vo out.length (zs out) ∧ Keeps [] w wr ∧ AscI out ∧ (∀ z, z ∈ out ↔ ∃ j, ∃ hj : j < R.length, 1 ≤ j ∧ j < i ∧ R[j].id = z) ∧ out.length + 1 = i) (fun _ iv _ _ => n - (intOf iv).toNat)
  case atStart => exact ⟨1, [], by omega, by omega, rfl, World.ownsRow_nil _ _ _ _, Keeps.refl _ _, List.Pairwise.nil, fun z => ⟨fun h => by simp at h, fun ⟨j, _, h1, h2, _⟩ => by omega⟩, rfl⟩
  case round =>
    obtain ⟨i, out, hi1, hin, rfl, ho, hkr, has0, hmm, hlen⟩ := hrel
    have HO := Lib.hid ho
    have KR := Lib.hid hkr
    have HAS := Lib.hid has0
    have HM := Lib.hid hmm
    clear ho hkr has0 hmm
    obtain ⟨Ao, co, hvo, -, -, -⟩ := own_shape HO.out
    subst hvo
    obtain ⟨f0, -⟩ := HCEL.out wr KR.out
    by_cases hlt : i < n
    · have hiR : i < R.length := by rw [HRL.out]; exact hlt
      have i0 : (0 : Int) ≤ (i : Int) := by omega
      have i1 : (i : Int) < (n : Int) := by omega
      have HC2 : Hid (∀ X, Keeps [] wr X → X.cell? ⟨d, 0, none⟩ = some (.slice (some ⟨g, 0, none⟩) n cap) ∧ X.cell? ⟨g, i * 5, none⟩ = some (.int .i64 R[i].id)) := Lib.hid (fun X hk => by
        obtain ⟨a, b⟩ := HCEL.out X (KR.out.trans hk (by simp))
        exact ⟨a, b i hiR⟩)
      have hzn : R[i].id ∉ out := fun hm => by
        obtain ⟨j, hj, _, h2, h3⟩ := (HM.out _).1 hm
        have := HINJ.out j i hj hiR h3
        omega
      obtain ⟨z, hz⟩ : ∃ z, R[i].id = z := ⟨_, rfl⟩
      rw [hz] at HC2 hzn
      have HZN := Lib.hid hzn
      have HZ : Hid (∃ hj : i < R.length, R[i].id = z) := Lib.hid ⟨hiR, hz⟩
      obtain ⟨m, hm⟩ : ∃ m, out.length = m := ⟨_, rfl⟩
      have HMM := Lib.hid hm
      rw [hm] at HO hlen ⊢
      have hcap : m ≤ co := by
        obtain ⟨_, _, hv, h1, -, -⟩ := own_shape HO.out
        injection hv with e1 e2 e3
        omega
      clear hzn hz hiR hm
      go_wp2_with fail
      clear f0
      obtain ⟨wo, rfl⟩ : ∃ wo, wo = wr := ⟨_, rfl⟩
      go_loopw [5] (fun iv wr => ∃ k : Nat, k ≤ m ∧ iv = .int .i64 k ∧ Keeps [] wo wr ∧ ∀ j (hj : j < out.length), j < k → out[j] < z) (fun iv _ => m - (intOf iv).toNat)
      case atStart => exact ⟨0, by omega, rfl, Keeps.refl _ _, fun j _ h => absurd h (by omega)⟩
      case round =>
        obtain ⟨k, hk, rfl, hkq, hlo⟩ := hrel
        have KQ := Lib.hid hkq
        have HLO := Lib.hid hlo
        clear hkq hlo
        by_cases hkm : k < m
        · have hko : k < out.length := by rw [HMM.out]; exact hkm
          obtain ⟨A', c', hv, -, -, hA⟩ := own_shape HO.out
          obtain ⟨go, hgo⟩ := hA (by omega)
          obtain ⟨rfl, rfl⟩ : Ao = A' ∧ co = c' := by injection hv with h1 h2 h3; exact ⟨h1, h3⟩
          obtain ⟨y, hy⟩ : ∃ y, out[k] = y := ⟨_, rfl⟩
          have hyc : ∀ X, Keeps [] wo X → X.cell? ⟨go, k, none⟩ = some (.int .i64 y) := fun X hk => by
            have h1 := own_keep HO.out hk (by simp)
            rw [hgo] at h1
            exact own_cell h1 (by rw [← hy]; simp [zs, hko])
          have HS6 : Hid (∀ X, Keeps [] wr X → X.cell? ⟨go, k, none⟩ = some (.int .i64 y) ∧ X.cell? ⟨d, 0, none⟩ = some (.slice (some ⟨g, 0, none⟩) n cap) ∧ X.cell? ⟨g, i * 5, none⟩ = some (.int .i64 z)) := Lib.hid (fun X hk => ⟨hyc X (KQ.out.trans hk (by simp)), HC2.out X (KQ.out.trans hk (by simp))⟩)
          have HY : Hid (∃ hj : k < out.length, out[k] = y) := Lib.hid ⟨hko, hy⟩
          have j0 : (0 : Int) ≤ (k : Int) := by omega
          have j1 : (k : Int) < (m : Int) := by omega
          clear hyc hy hko hv hA
          by_cases hyz : y < z
          · have HD := Lib.hid (decide_eq_true hyz)
            have HN : Hid (∀ j (hj : j < out.length), j < k + 1 → out[j] < z) := Lib.hid (fun j hj hjk => by
              by_cases hj2 : j < k
              · exact HLO.out j hj hj2
              · obtain rfl : j = k := by omega
                obtain ⟨_, e⟩ := HY.out
                rw [e]; exact hyz)
            clear hyz HLO
            subst hgo
            go_upto_region 6 with fail
            refine lv6m_any wr d g n cap i k go m co y z true _ HS6.out j0 j1 i0 i1 HD.out _ _ _ _ _ _ _ _ _ _ _ _ _ _ _ _ _ _ _ _ _ _ _ _ _ _ _ _ _ _ _ _ _ _ _ _ _ _ _ _ _ _ _ _ _ _ _ _ _ _ _ _ ?_
            intro v15 v16 v17 v18 v19 v20 v21 v22 v23 v24 v25 v26 v27 v28 v29 v30 v31 v32 X hk2
            have KN := Lib.hid (KQ.out.trans hk2 (by simp))
            clear hk2
            go_wp2_with fail
            exact ⟨⟨k + 1, by omega, rfl, KN.out, HN.out⟩, by simp only [intOf]; omega⟩
          · have HD := Lib.hid (decide_eq_false hyz)
            have HEX : Hid (∀ h : k < out.length, ¬ out[k] < z) := Lib.hid (fun _ => by
              obtain ⟨_, e⟩ := HY.out
              rw [e]; exact hyz)
            clear hyz
            subst hgo
            go_upto_region 6 with fail
            refine lv6m_any wr d g n cap i k go m co y z false _ HS6.out j0 j1 i0 i1 HD.out _ _ _ _ _ _ _ _ _ _ _ _ _ _ _ _ _ _ _ _ _ _ _ _ _ _ _ _ _ _ _ _ _ _ _ _ _ _ _ _ _ _ _ _ _ _ _ _ _ _ _ _ ?_
            intro v15 v16 v17 v18 v19 v20 v21 v22 v23 v24 v25 v26 v27 v28 v29 v30 v31 v32 X hk2
            have KN := Lib.hid (KQ.out.trans hk2 (by simp))
            clear hk2 HS6 HD j0 j1
            have HRO : Hid (∀ X0, Keeps [] X X0 → X0.ownsRow 0 3 1 (.slice (some ⟨go, 0, none⟩) m co) m (zs out)) := Lib.hid (fun X0 hk => own_keep HO.out (KN.out.trans hk (by simp)) (by simp))
            have hs1 := run_take42 (some ⟨go, 0, none⟩) m co k (by omega) hcap
            have hs2 := run_drop42 (some ⟨go, 0, none⟩) m co k (by omega)
            obtain ⟨B, hB⟩ : ∃ B : Option Addr, (if co = k then ((some ⟨go, 0, none⟩) : Option Addr) else ((some ⟨go, 0, none⟩) : Option Addr).map (·.add k)) = B := ⟨_, rfl⟩
            have HR1 : Hid (∀ X0, Keeps [] X X0 → Reads X0 X0.heap.size 1 (some ⟨go, 0, none⟩) k (zs (out.take k))) := Lib.hid (fun X0 hk => by
              have h1 := (reads_own (HRO.out X0 hk)).take (k := k) (by omega)
              have e : (zs out).take (k * 1) = zs (out.take k) := by simp [zs]
              rw [e] at h1
              exact h1)
            have HR2 : Hid (∀ X0, Keeps [] X X0 → Reads X0 X0.heap.size 1 B (m - k) (zs (out.drop k))) := Lib.hid (fun X0 hk => by
              have h1 := (reads_own (HRO.out X0 hk)).cut (k := k) (cap := co) (by omega) hcap
              have e : (zs out).drop (k * 1) = zs (out.drop k) := by simp [zs]
              rw [e] at h1
              rw [Nat.mul_one] at h1
              rw [← hB]
              exact h1)
            rw [hB] at hs2
            clear hB
            go_upto_region 8 with fail
            refine lv8_any X d g n cap i m k co (m - k) (co - k) (0 + k + 1 + (m - k)) (some ⟨go, 0, none⟩) B z (zs (out.take k)) (zs (out.drop k)) _ (by omega) (by omega) (by omega) rfl (fun X0 hk => HC2.out X0 (KN.out.trans hk (by simp))) i0 i1 hs1 hs2 HR1.out HR2.out (zs_one _) (zs_one _) _ _ _ _ _ _ _ _ _ _ _ _ _ _ _ _ _ _ _ _ _ _ _ _ _ _ _ _ _ _ _ _ _ _ _ _ _ _ _ _ _ _ _ _ _ _ _ _ _ _ _ _ ?_
            intro v36 v37 v38 v39 v40 v41 v42 v43 v44 v45 v46 v47 v48 v49 v50 v51 v52 v53 v54 v3 X3 o3 k3 f3
            obtain ⟨out2, ho2⟩ : ∃ o, out.take k ++ z :: out.drop k = o := ⟨_, rfl⟩
            have hl2 : out2.length = m + 1 := by rw [← ho2]; have := HMM.out; simp; omega
            have HO2 : Hid (X3.ownsRow 0 3 1 v3 out2.length (zs out2)) := Lib.hid (by
              rw [hl2, show m + 1 = 0 + k + 1 + (m - k) by omega, ← ho2]
              have e : zs (out.take k ++ z :: out.drop k) = [] ++ zs (out.take k) ++ [.int .i64 z] ++ zs (out.drop k) := by simp [zs]
              rw [e]
              exact o3)
            have K3 : Hid (Keeps [] w X3) := Lib.hid (KR.out.trans (KN.out.trans k3 (by simp)) (by simp))
            have HA2 : Hid (AscI out2) := Lib.hid (by rw [← ho2]; exact asc_insert HAS.out HLO.out HEX.out HZN.out)
            have HM2 : Hid (∀ z', z' ∈ out2 ↔ ∃ j, ∃ hj : j < R.length, 1 ≤ j ∧ j < i + 1 ∧ R[j].id = z') := Lib.hid (fun z' => by
              have hmem : z' ∈ out2 ↔ z' = z ∨ z' ∈ out := by
                rw [← ho2]
                conv => rhs; rw [← List.take_append_drop k out]
                simp only [List.mem_append, List.mem_cons]
                constructor
                · rintro (h | h | h)
                  · exact .inr (.inl h)
                  · exact .inl h
                  · exact .inr (.inr h)
                · rintro (h | h | h)
                  · exact .inr (.inl h)
                  · exact .inl h
                  · exact .inr (.inr h)
              obtain ⟨hj0, hz0⟩ := HZ.out
              rw [hmem, HM.out z']
              constructor
              · rintro (rfl | ⟨j, hj, h1, h2, h3⟩)
                · exact ⟨i, hj0, hi1, by omega, hz0⟩
                · exact ⟨j, hj, h1, by omega, h3⟩
              · rintro ⟨j, hj, h1, h2, h3⟩
                by_cases hji : j = i
                · subst hji
                  exact .inl (by rw [← h3, hz0])
                · exact .inr ⟨j, hj, h1, by omega, h3⟩)
            have HL2 := Lib.hid hl2
            clear o3 k3 f3 ho2 hl2 HRO HR1 HR2 hs1 hs2 HM HAS HLO HEX HZN HZ HO HC2
            go_wp2_with fail
            have hl2 := HL2.out
            exact ⟨⟨i + 1, out2, by omega, by omega, rfl, HO2.out, K3.out, HA2.out, HM2.out, by omega⟩, by simp only [intOf]; omega⟩
        · obtain rfl : k = m := by omega
          have HEX : Hid (∀ h : k < out.length, ¬ out[k] < z) := Lib.hid (fun h => absurd h (by rw [HMM.out]; omega))
          go_upto_region 6 with fail
          refine lv6e_any wr d i k k co Ao _ (fun _ _ => trivial) (by omega) _ _ _ _ _ _ _ _ _ _ _ _ _ _ _ _ _ _ _ _ _ _ _ _ _ _ _ _ _ _ _ _ _ _ _ _ _ _ _ _ _ _ _ _ _ _ _ _ _ _ _ _ ?_
          intro v15 v16 v17 v18 v19 v20 v21 v22 v23 v24 v25 v26 v27 v28 v29 v30 v31 v32 X hk2
          have KN := Lib.hid (KQ.out.trans hk2 (by simp))
          clear hk2
          have HRO : Hid (∀ X0, Keeps [] X X0 → X0.ownsRow 0 3 1 (.slice Ao k co) k (zs out)) := Lib.hid (fun X0 hk => own_keep HO.out (KN.out.trans hk (by simp)) (by simp))
          have hs1 := run_take42 Ao k co k (by omega) hcap
          have hs2 := run_drop42 Ao k co k (by omega)
          obtain ⟨B, hB⟩ : ∃ B : Option Addr, (if co = k then (Ao : Option Addr) else (Ao : Option Addr).map (·.add k)) = B := ⟨_, rfl⟩
          have HR1 : Hid (∀ X0, Keeps [] X X0 → Reads X0 X0.heap.size 1 Ao k (zs (out.take k))) := Lib.hid (fun X0 hk => by
            have h1 := (reads_own (HRO.out X0 hk)).take (k := k) (by omega)
            have e : (zs out).take (k * 1) = zs (out.take k) := by simp [zs]
            rw [e] at h1
            exact h1)
          have HR2 : Hid (∀ X0, Keeps [] X X0 → Reads X0 X0.heap.size 1 B (k - k) (zs (out.drop k))) := Lib.hid (fun X0 hk => by
            have h1 := (reads_own (HRO.out X0 hk)).cut (k := k) (cap := co) (by omega) hcap
            have e : (zs out).drop (k * 1) = zs (out.drop k) := by simp [zs]
            rw [e] at h1
            rw [Nat.mul_one] at h1
            rw [← hB]
            exact h1)
          rw [hB] at hs2
          clear hB
          go_upto_region 8 with fail
          refine lv8_any X d g n cap i k k co (k - k) (co - k) (0 + k + 1 + (k - k)) Ao B z (zs (out.take k)) (zs (out.drop k)) _ (by omega) (by omega) (by omega) rfl (fun X0 hk => HC2.out X0 (KN.out.trans hk (by simp))) i0 i1 hs1 hs2 HR1.out HR2.out (zs_one _) (zs_one _) _ _ _ _ _ _ _ _ _ _ _ _ _ _ _ _ _ _ _ _ _ _ _ _ _ _ _ _ _ _ _ _ _ _ _ _ _ _ _ _ _ _ _ _ _ _ _ _ _ _ _ _ ?_
          intro v36 v37 v38 v39 v40 v41 v42 v43 v44 v45 v46 v47 v48 v49 v50 v51 v52 v53 v54 v3 X3 o3 k3 f3
          obtain ⟨out2, ho2⟩ : ∃ o, out.take k ++ z :: out.drop k = o := ⟨_, rfl⟩
          have hl2 : out2.length = k + 1 := by rw [← ho2]; have := HMM.out; simp; omega
          have HO2 : Hid (X3.ownsRow 0 3 1 v3 out2.length (zs out2)) := Lib.hid (by
            rw [hl2, show k + 1 = 0 + k + 1 + (k - k) by omega, ← ho2]
            have e : zs (out.take k ++ z :: out.drop k) = [] ++ zs (out.take k) ++ [.int .i64 z] ++ zs (out.drop k) := by simp [zs]
            rw [e]
            exact o3)
          have K3 : Hid (Keeps [] w X3) := Lib.hid (KR.out.trans (KN.out.trans k3 (by simp)) (by simp))
          have HA2 : Hid (AscI out2) := Lib.hid (by rw [← ho2]; exact asc_insert HAS.out HLO.out HEX.out HZN.out)
          have HM2 : Hid (∀ z', z' ∈ out2 ↔ ∃ j, ∃ hj : j < R.length, 1 ≤ j ∧ j < i + 1 ∧ R[j].id = z') := Lib.hid (fun z' => by
            have hmem : z' ∈ out2 ↔ z' = z ∨ z' ∈ out := by
              rw [← ho2]
              conv => rhs; rw [← List.take_append_drop k out]
              simp only [List.mem_append, List.mem_cons]
              constructor
              · rintro (h | h | h)
                · exact .inr (.inl h)
                · exact .inl h
                · exact .inr (.inr h)
              · rintro (h | h | h)
                · exact .inr (.inl h)
                · exact .inl h
                · exact .inr (.inr h)
            obtain ⟨hj0, hz0⟩ := HZ.out
            rw [hmem, HM.out z']
            constructor
            · rintro (rfl | ⟨j, hj, h1, h2, h3⟩)
              · exact ⟨i, hj0, hi1, by omega, hz0⟩
              · exact ⟨j, hj, h1, by omega, h3⟩
            · rintro ⟨j, hj, h1, h2, h3⟩
              by_cases hji : j = i
              · subst hji
                exact .inl (by rw [← h3, hz0])
              · exact .inr ⟨j, hj, h1, by omega, h3⟩)
          have HL2 := Lib.hid hl2
          clear o3 k3 f3 ho2 hl2 HRO HR1 HR2 hs1 hs2 HM HAS HLO HEX HZN HZ HO HC2
          go_wp2_with fail
          have hl2 := HL2.out
          exact ⟨⟨i + 1, out2, by omega, by omega, rfl, HO2.out, K3.out, HA2.out, HM2.out, by omega⟩, by simp only [intOf]; omega⟩
    · obtain rfl : i = n := by omega
      have i1 : ¬ ((i : Int) < (i : Int)) := by omega
      have hvv : out = V := HLIVE.out out HAS.out (fun z => by
        rw [HM.out z]
        constructor
        · rintro ⟨j, hj, h1, _, h3⟩; exact ⟨j, hj, h1, h3⟩
        · rintro ⟨j, hj, h1, h3⟩; exact ⟨j, hj, h1, by rw [← HRL.out]; exact hj, h3⟩)
      have HV : Hid (wr.ownsRow 0 3 1 (.slice Ao out.length co) V.length (zs V)) := Lib.hid (by rw [← hvv]; exact HO.out)
      clear hvv
      go_wp2_with fail
      go_ret
      exact ⟨⟨_, rfl, HV.out⟩, KR.out⟩
end Go.Proofs.YtbllmpcpfmlemaaGreat
