/- The reference: Commit (printed by t16gen.py). -/
import Derived.Test.YtbllmpcpfmlemaaGreatTC
import Derived.Test.YtbllmpcpfmlemaaGreatSh
namespace Go.Proofs.YtbllmpcpfmlemaaGreat
open Go.RowKit
noncomputable def cm11C : Code := ((Tryz.f50.body.bind (theRegion 11)).getD .skip)
set_option maxRecDepth 1000000 in
set_option maxHeartbeats 1600000 in
set_option linter.unusedSimpArgs false in
theorem cm11_any (w : World) (d b g2 n c k : Nat) (zp : Int) (ky : Str) (Q : World → Prop) (K : Exit → Act → World → Prop)
    (hS : ∀ W, Keeps [] w W → W.cell? ⟨b, 1, none⟩ = some (.int .i64 zp) ∧ W.cell? ⟨b, 3, none⟩ = some (.slice (some ⟨g2, 0, none⟩) n c) ∧ W.cell? ⟨g2, k * 4 + 1, none⟩ = some (sv ky))
    (hC : ∀ W, Keeps [] w W → Calls Tryz.prog 84 #[.pointer (some ⟨d, 0, none⟩), .int .i64 zp, sv ky] W fun e w' => e = .returned (.tuple #[]) ∧ Q w')
    (i0 : (0 : Int) ≤ (k : Int)) (i1 : (k : Int) < (n : Int))
    (u1 u2 u3 u4 u5 u8 u9 u10 u11 u12 u13 u14 u15 u16 u17 u18 u19 u20 u21 u22 u23 u24 u25 u26 u27 u28 u29 u30 u31 u32 u33 u34 u35 u36 u37 u38 u39 u40 u41 u42 u43 u44 u45 u46 u47 u48 u49 u50 u51 u52 u53 u54 u55 u56 u57 u58 u59 u60 u61 u62 u63 u64 u65 u66 u67 u68 u69 u70 u71 u72 u73 u74 u75 u76 u77 u78 u79 u80 u81 u82 u83 u84 u85 u86 u87 u88 u89 u90 u91 u92 u93 u94 u95 u96 u97 u98 u99 u100 u101 u102 u103 u104 u105 u106 u107 u108 u109 : Value)
    (hK : ∀ (v39 v40 v41 v42 v43 v44 v45 v46 v47 v48 : Value) (W : World), Q W → K .normal ⟨#[.pointer (some ⟨d, 0, none⟩), u1, u2, u3, u4, u5, .pointer (some ⟨b, 0, none⟩), .int .i64 (k : Nat), u8, u9, u10, u11, u12, u13, u14, u15, u16, u17, u18, u19, u20, u21, u22, u23, u24, u25, u26, u27, u28, u29, u30, u31, u32, u33, u34, u35, u36, u37, u38, v39, v40, v41, v42, v43, v44, v45, v46, v47, v48, u49, u50, u51, u52, u53, u54, u55, u56, u57, u58, u59, u60, u61, u62, u63, u64, u65, u66, u67, u68, u69, u70, u71, u72, u73, u74, u75, u76, u77, u78, u79, u80, u81, u82, u83, u84, u85, u86, u87, u88, u89, u90, u91, u92, u93, u94, u95, u96, u97, u98, u99, u100, u101, u102, u103, u104, u105, u106, u107, u108, u109], []⟩ W) :
    Code.wp Tryz.prog cm11C K ⟨#[.pointer (some ⟨d, 0, none⟩), u1, u2, u3, u4, u5, .pointer (some ⟨b, 0, none⟩), .int .i64 (k : Nat), u8, u9, u10, u11, u12, u13, u14, u15, u16, u17, u18, u19, u20, u21, u22, u23, u24, u25, u26, u27, u28, u29, u30, u31, u32, u33, u34, u35, u36, u37, u38, u39, u40, u41, u42, u43, u44, u45, u46, u47, u48, u49, u50, u51, u52, u53, u54, u55, u56, u57, u58, u59, u60, u61, u62, u63, u64, u65, u66, u67, u68, u69, u70, u71, u72, u73, u74, u75, u76, u77, u78, u79, u80, u81, u82, u83, u84, u85, u86, u87, u88, u89, u90, u91, u92, u93, u94, u95, u96, u97, u98, u99, u100, u101, u102, u103, u104, u105, u106, u107, u108, u109], []⟩ w := by
  have HS := Lib.hid hS
  have HC := Lib.hid hC
  clear hS hC
  conv => arg 2; whnf
  try dsimp only at hK ⊢
  refine wp_region_noPanic ?_
  refine wp_region_last (S := fun W => W.cell? ⟨b, 1, none⟩ = some (.int .i64 zp) ∧ W.cell? ⟨b, 3, none⟩ = some (.slice (some ⟨g2, 0, none⟩) n c) ∧ W.cell? ⟨g2, k * 4 + 1, none⟩ = some (sv ky)) 9 (by kernel_rfl) (HS.out _ ((Keeps.refl [] w).drew)) (fun hHeld => ?_)
  obtain ⟨w0, hw0⟩ : ∃ w0, w.drew = w0 := ⟨_, rfl⟩
  try rw [hw0] at hHeld
  rw [hw0]
  have K0 : Keeps [] w w0 := by rw [← hw0]; exact (Keeps.refl [] w).drew
  clear hw0
  refine wpG_take (nx := [9, 2, 9, 4, 6, 6, 7, 8, 9]) (i := 0) (oi := ⟨some 39, .move (.tmp 0), 26, _, _, none⟩) (v := ?vq1) (by kernel_rfl) rfl (by decide) (by kernel_rfl) (by kernel_rfl) (by kernel_rfl) (fun _ _ _ h => h) (Or.inl ⟨by rfl, fun W hW => ?_⟩) (by assumption) ?_
  rotate_left
  · go_simp
    with_reducible rfl
  try simp only [Act.put, lA, l0, lS]
  refine wpG_take (nx := [9, 2, 9, 4, 6, 6, 7, 8, 9]) (i := 1) (oi := ⟨some 40, .fieldAddr 68 (.tmp 6) 1, 0, _, _, none⟩) (v := ?vq2) (by kernel_rfl) rfl (by decide) (by kernel_rfl) (by kernel_rfl) (by kernel_rfl) (fun _ _ _ h => h) (Or.inl ⟨by rfl, fun W hW => ?_⟩) (by assumption) ?_
  rotate_left
  · go_simp
    with_reducible rfl
  try simp only [Act.put, lA, l0, lS]
  refine wpG_take (nx := [9, 2, 9, 4, 6, 6, 7, 8, 9]) (i := 2) (oi := ⟨some 41, .load 3 (.tmp 40), 3, _, _, none⟩) (v := .int .i64 zp) (by kernel_rfl) rfl (by decide) (by kernel_rfl) (by kernel_rfl) (by kernel_rfl) (fun _ _ _ h => h) (Or.inl ⟨by rfl, fun W hW => ?_⟩) (by assumption) ?_
  · (obtain ⟨a0, a1, a2⟩ := hW; go_simp)
  try simp only [Act.put, lA, l0, lS]
  refine wpG_take (nx := [9, 2, 9, 4, 6, 6, 7, 8, 9]) (i := 3) (oi := ⟨some 42, .fieldAddr 68 (.tmp 6) 3, 0, _, _, none⟩) (v := ?vq3) (by kernel_rfl) rfl (by decide) (by kernel_rfl) (by kernel_rfl) (by kernel_rfl) (fun _ _ _ h => h) (Or.inl ⟨by rfl, fun W hW => ?_⟩) (by assumption) ?_
  rotate_left
  · go_simp
    with_reducible rfl
  try simp only [Act.put, lA, l0, lS]
  refine wpG_take (nx := [9, 2, 9, 4, 6, 6, 7, 8, 9]) (i := 4) (oi := ⟨some 43, .load 50 (.tmp 42), 50, _, _, none⟩) (v := .slice (some ⟨g2, 0, none⟩) n c) (by kernel_rfl) rfl (by decide) (by kernel_rfl) (by kernel_rfl) (by kernel_rfl) (fun _ _ _ h => h) (Or.inl ⟨by rfl, fun W hW => ?_⟩) (by assumption) ?_
  · (obtain ⟨a0, a1, a2⟩ := hW; go_simp)
  try simp only [Act.put, lA, l0, lS]
  refine wpG_take (nx := [9, 2, 9, 4, 6, 6, 7, 8, 9]) (i := 5) (oi := ⟨some 44, .move (.tmp 7), 3, _, _, none⟩) (v := ?vq4) (by kernel_rfl) rfl (by decide) (by kernel_rfl) (by kernel_rfl) (by kernel_rfl) (fun _ _ _ h => h) (Or.inl ⟨by rfl, fun W hW => ?_⟩) (by assumption) ?_
  rotate_left
  · go_simp
    with_reducible rfl
  try simp only [Act.put, lA, l0, lS]
  refine wpG_take (nx := [9, 2, 9, 4, 6, 6, 7, 8, 9]) (i := 6) (oi := ⟨some 45, .indexAddr 50 (.tmp 43) (.tmp 44), 0, _, _, none⟩) (v := ?vq5) (by kernel_rfl) rfl (by decide) (by kernel_rfl) (by kernel_rfl) (by kernel_rfl) (fun _ _ _ h => h) (Or.inl ⟨by rfl, fun W hW => ?_⟩) (by assumption) ?_
  rotate_left
  · go_simp
    with_reducible rfl
  try simp only [Act.put, lA, l0, lS]
  refine wpG_take (nx := [9, 2, 9, 4, 6, 6, 7, 8, 9]) (i := 7) (oi := ⟨some 46, .fieldAddr 34 (.tmp 45) 1, 0, _, _, none⟩) (v := ?vq6) (by kernel_rfl) rfl (by decide) (by kernel_rfl) (by kernel_rfl) (by kernel_rfl) (fun _ _ _ h => h) (Or.inl ⟨by rfl, fun W hW => ?_⟩) (by assumption) ?_
  rotate_left
  · go_simp
    with_reducible rfl
  try simp only [Act.put, lA, l0, lS]
  refine wpG_take (nx := [9, 2, 9, 4, 6, 6, 7, 8, 9]) (i := 8) (oi := ⟨some 47, .load 9 (.tmp 46), 9, _, _, none⟩) (v := sv ky) (by kernel_rfl) rfl (by decide) (by kernel_rfl) (by kernel_rfl) (by kernel_rfl) (fun _ _ _ h => h) (Or.inl ⟨by rfl, fun W hW => ?_⟩) (by assumption) ?_
  · (obtain ⟨a0, a1, a2⟩ := hW; go_simp)
  try simp only [Act.put, lA, l0, lS]
  refine wpG_ready (rs := [9]) (by kernel_rfl) (by simp) ?_
  refine AllG.last (o := ⟨some 48, .call { callee := .value (.func 84), args := #[.tmp 39, .tmp 41, .tmp 47], argTypes := #[26, 3, 9] }, 0, _, _, none⟩) rfl (fun KK hKK => ?_)
  refine step_callW (by rfl) 84 _ _ rfl #[.pointer (some ⟨d, 0, none⟩), .int .i64 zp, sv ky] (by first | (simp [Act.eval]; done) | (simp [Act.eval, Act.put]; done)) (enters_of Tryz.func84 (by kernel_rfl) rfl) (HC.out _ K0) ?_
  rintro e W9 ⟨rfl, q9⟩
  refine ⟨_, rfl, ?_⟩
  refine hKK.out _ _ ?_
  clear hKK KK hHeld
  try simp only [Act.put, lA, l0, lS]
  refine wpG_done (by kernel_rfl) ?_ _
  refine NoPanic.normal ?_
  exact hK _ _ _ _ _ _ _ _ _ _ _ q9
noncomputable def cm12C : Code := ((Tryz.f50.body.bind (theRegion 12)).getD .skip)
set_option maxRecDepth 1000000 in
set_option maxHeartbeats 1600000 in
set_option linter.unusedSimpArgs false in
theorem cm12_any (w : World) (d b g2 n c k : Nat) (zp : Int) (ky : Str) (Q : World → Prop) (K : Exit → Act → World → Prop)
    (hS : ∀ W, Keeps [] w W → W.cell? ⟨b, 1, none⟩ = some (.int .i64 zp) ∧ W.cell? ⟨b, 3, none⟩ = some (.slice (some ⟨g2, 0, none⟩) n c) ∧ W.cell? ⟨g2, k * 4 + 1, none⟩ = some (sv ky))
    (hC : ∀ W, Keeps [] w W → Calls Tryz.prog 82 #[.pointer (some ⟨d, 0, none⟩), .int .i64 zp, sv ky] W fun e w' => e = .returned (.tuple #[]) ∧ Q w')
    (i0 : (0 : Int) ≤ (k : Int)) (i1 : (k : Int) < (n : Int))
    (u1 u2 u3 u4 u5 u8 u9 u10 u11 u12 u13 u14 u15 u16 u17 u18 u19 u20 u21 u22 u23 u24 u25 u26 u27 u28 u29 u30 u31 u32 u33 u34 u35 u36 u37 u38 u39 u40 u41 u42 u43 u44 u45 u46 u47 u48 u49 u50 u51 u52 u53 u54 u55 u56 u57 u58 u59 u60 u61 u62 u63 u64 u65 u66 u67 u68 u69 u70 u71 u72 u73 u74 u75 u76 u77 u78 u79 u80 u81 u82 u83 u84 u85 u86 u87 u88 u89 u90 u91 u92 u93 u94 u95 u96 u97 u98 u99 u100 u101 u102 u103 u104 u105 u106 u107 u108 u109 : Value)
    (hK : ∀ (v49 v50 v51 v52 v53 v54 v55 v56 v57 v58 : Value) (W : World), Q W → K .normal ⟨#[.pointer (some ⟨d, 0, none⟩), u1, u2, u3, u4, u5, .pointer (some ⟨b, 0, none⟩), .int .i64 (k : Nat), u8, u9, u10, u11, u12, u13, u14, u15, u16, u17, u18, u19, u20, u21, u22, u23, u24, u25, u26, u27, u28, u29, u30, u31, u32, u33, u34, u35, u36, u37, u38, u39, u40, u41, u42, u43, u44, u45, u46, u47, u48, v49, v50, v51, v52, v53, v54, v55, v56, v57, v58, u59, u60, u61, u62, u63, u64, u65, u66, u67, u68, u69, u70, u71, u72, u73, u74, u75, u76, u77, u78, u79, u80, u81, u82, u83, u84, u85, u86, u87, u88, u89, u90, u91, u92, u93, u94, u95, u96, u97, u98, u99, u100, u101, u102, u103, u104, u105, u106, u107, u108, u109], []⟩ W) :
    Code.wp Tryz.prog cm12C K ⟨#[.pointer (some ⟨d, 0, none⟩), u1, u2, u3, u4, u5, .pointer (some ⟨b, 0, none⟩), .int .i64 (k : Nat), u8, u9, u10, u11, u12, u13, u14, u15, u16, u17, u18, u19, u20, u21, u22, u23, u24, u25, u26, u27, u28, u29, u30, u31, u32, u33, u34, u35, u36, u37, u38, u39, u40, u41, u42, u43, u44, u45, u46, u47, u48, u49, u50, u51, u52, u53, u54, u55, u56, u57, u58, u59, u60, u61, u62, u63, u64, u65, u66, u67, u68, u69, u70, u71, u72, u73, u74, u75, u76, u77, u78, u79, u80, u81, u82, u83, u84, u85, u86, u87, u88, u89, u90, u91, u92, u93, u94, u95, u96, u97, u98, u99, u100, u101, u102, u103, u104, u105, u106, u107, u108, u109], []⟩ w := by
  have HS := Lib.hid hS
  have HC := Lib.hid hC
  clear hS hC
  conv => arg 2; whnf
  try dsimp only at hK ⊢
  refine wp_region_noPanic ?_
  refine wp_region_last (S := fun W => W.cell? ⟨b, 1, none⟩ = some (.int .i64 zp) ∧ W.cell? ⟨b, 3, none⟩ = some (.slice (some ⟨g2, 0, none⟩) n c) ∧ W.cell? ⟨g2, k * 4 + 1, none⟩ = some (sv ky)) 9 (by kernel_rfl) (HS.out _ ((Keeps.refl [] w).drew)) (fun hHeld => ?_)
  obtain ⟨w0, hw0⟩ : ∃ w0, w.drew = w0 := ⟨_, rfl⟩
  try rw [hw0] at hHeld
  rw [hw0]
  have K0 : Keeps [] w w0 := by rw [← hw0]; exact (Keeps.refl [] w).drew
  clear hw0
  refine wpG_take (nx := [9, 2, 9, 4, 6, 6, 7, 8, 9]) (i := 0) (oi := ⟨some 49, .move (.tmp 0), 26, _, _, none⟩) (v := ?vq7) (by kernel_rfl) rfl (by decide) (by kernel_rfl) (by kernel_rfl) (by kernel_rfl) (fun _ _ _ h => h) (Or.inl ⟨by rfl, fun W hW => ?_⟩) (by assumption) ?_
  rotate_left
  · go_simp
    with_reducible rfl
  try simp only [Act.put, lA, l0, lS]
  refine wpG_take (nx := [9, 2, 9, 4, 6, 6, 7, 8, 9]) (i := 1) (oi := ⟨some 50, .fieldAddr 68 (.tmp 6) 1, 0, _, _, none⟩) (v := ?vq8) (by kernel_rfl) rfl (by decide) (by kernel_rfl) (by kernel_rfl) (by kernel_rfl) (fun _ _ _ h => h) (Or.inl ⟨by rfl, fun W hW => ?_⟩) (by assumption) ?_
  rotate_left
  · go_simp
    with_reducible rfl
  try simp only [Act.put, lA, l0, lS]
  refine wpG_take (nx := [9, 2, 9, 4, 6, 6, 7, 8, 9]) (i := 2) (oi := ⟨some 51, .load 3 (.tmp 50), 3, _, _, none⟩) (v := .int .i64 zp) (by kernel_rfl) rfl (by decide) (by kernel_rfl) (by kernel_rfl) (by kernel_rfl) (fun _ _ _ h => h) (Or.inl ⟨by rfl, fun W hW => ?_⟩) (by assumption) ?_
  · (obtain ⟨a0, a1, a2⟩ := hW; go_simp)
  try simp only [Act.put, lA, l0, lS]
  refine wpG_take (nx := [9, 2, 9, 4, 6, 6, 7, 8, 9]) (i := 3) (oi := ⟨some 52, .fieldAddr 68 (.tmp 6) 3, 0, _, _, none⟩) (v := ?vq9) (by kernel_rfl) rfl (by decide) (by kernel_rfl) (by kernel_rfl) (by kernel_rfl) (fun _ _ _ h => h) (Or.inl ⟨by rfl, fun W hW => ?_⟩) (by assumption) ?_
  rotate_left
  · go_simp
    with_reducible rfl
  try simp only [Act.put, lA, l0, lS]
  refine wpG_take (nx := [9, 2, 9, 4, 6, 6, 7, 8, 9]) (i := 4) (oi := ⟨some 53, .load 50 (.tmp 52), 50, _, _, none⟩) (v := .slice (some ⟨g2, 0, none⟩) n c) (by kernel_rfl) rfl (by decide) (by kernel_rfl) (by kernel_rfl) (by kernel_rfl) (fun _ _ _ h => h) (Or.inl ⟨by rfl, fun W hW => ?_⟩) (by assumption) ?_
  · (obtain ⟨a0, a1, a2⟩ := hW; go_simp)
  try simp only [Act.put, lA, l0, lS]
  refine wpG_take (nx := [9, 2, 9, 4, 6, 6, 7, 8, 9]) (i := 5) (oi := ⟨some 54, .move (.tmp 7), 3, _, _, none⟩) (v := ?vq10) (by kernel_rfl) rfl (by decide) (by kernel_rfl) (by kernel_rfl) (by kernel_rfl) (fun _ _ _ h => h) (Or.inl ⟨by rfl, fun W hW => ?_⟩) (by assumption) ?_
  rotate_left
  · go_simp
    with_reducible rfl
  try simp only [Act.put, lA, l0, lS]
  refine wpG_take (nx := [9, 2, 9, 4, 6, 6, 7, 8, 9]) (i := 6) (oi := ⟨some 55, .indexAddr 50 (.tmp 53) (.tmp 54), 0, _, _, none⟩) (v := ?vq11) (by kernel_rfl) rfl (by decide) (by kernel_rfl) (by kernel_rfl) (by kernel_rfl) (fun _ _ _ h => h) (Or.inl ⟨by rfl, fun W hW => ?_⟩) (by assumption) ?_
  rotate_left
  · go_simp
    with_reducible rfl
  try simp only [Act.put, lA, l0, lS]
  refine wpG_take (nx := [9, 2, 9, 4, 6, 6, 7, 8, 9]) (i := 7) (oi := ⟨some 56, .fieldAddr 34 (.tmp 55) 1, 0, _, _, none⟩) (v := ?vq12) (by kernel_rfl) rfl (by decide) (by kernel_rfl) (by kernel_rfl) (by kernel_rfl) (fun _ _ _ h => h) (Or.inl ⟨by rfl, fun W hW => ?_⟩) (by assumption) ?_
  rotate_left
  · go_simp
    with_reducible rfl
  try simp only [Act.put, lA, l0, lS]
  refine wpG_take (nx := [9, 2, 9, 4, 6, 6, 7, 8, 9]) (i := 8) (oi := ⟨some 57, .load 9 (.tmp 56), 9, _, _, none⟩) (v := sv ky) (by kernel_rfl) rfl (by decide) (by kernel_rfl) (by kernel_rfl) (by kernel_rfl) (fun _ _ _ h => h) (Or.inl ⟨by rfl, fun W hW => ?_⟩) (by assumption) ?_
  · (obtain ⟨a0, a1, a2⟩ := hW; go_simp)
  try simp only [Act.put, lA, l0, lS]
  refine wpG_ready (rs := [9]) (by kernel_rfl) (by simp) ?_
  refine AllG.last (o := ⟨some 58, .call { callee := .value (.func 82), args := #[.tmp 49, .tmp 51, .tmp 57], argTypes := #[26, 3, 9] }, 0, _, _, none⟩) rfl (fun KK hKK => ?_)
  refine step_callW (by rfl) 82 _ _ rfl #[.pointer (some ⟨d, 0, none⟩), .int .i64 zp, sv ky] (by first | (simp [Act.eval]; done) | (simp [Act.eval, Act.put]; done)) (enters_of Tryz.func82 (by kernel_rfl) rfl) (HC.out _ K0) ?_
  rintro e W9 ⟨rfl, q9⟩
  refine ⟨_, rfl, ?_⟩
  refine hKK.out _ _ ?_
  clear hKK KK hHeld
  try simp only [Act.put, lA, l0, lS]
  refine wpG_done (by kernel_rfl) ?_ _
  refine NoPanic.normal ?_
  exact hK _ _ _ _ _ _ _ _ _ _ _ q9
noncomputable def cm16C : Code := ((Tryz.f50.body.bind (theRegion 16)).getD .skip)
set_option maxRecDepth 1000000 in
set_option maxHeartbeats 1600000 in
set_option linter.unusedSimpArgs false in
theorem cm16_any (w : World) (d b g2 n c k : Nat) (zp : Int) (ky vl : Str) (Q : World → Prop) (K : Exit → Act → World → Prop)
    (hS : ∀ W, Keeps [] w W → W.cell? ⟨b, 1, none⟩ = some (.int .i64 zp) ∧ W.cell? ⟨b, 2, none⟩ = some (.slice (some ⟨g2, 0, none⟩) n c) ∧ W.cell? ⟨g2, k * 2, none⟩ = some (sv ky) ∧ W.cell? ⟨g2, k * 2 + 1, none⟩ = some (sv vl))
    (hC : ∀ W, Keeps [] w W → Calls Tryz.prog 46 #[.pointer (some ⟨d, 0, none⟩), .int .i64 zp, sv ky, sv vl] W fun e w' => e = .returned (.tuple #[]) ∧ Q w')
    (i0 : (0 : Int) ≤ (k : Int)) (i1 : (k : Int) < (n : Int))
    (u1 u2 u3 u4 u5 u7 u9 u10 u11 u12 u13 u14 u15 u16 u17 u18 u19 u20 u21 u22 u23 u24 u25 u26 u27 u28 u29 u30 u31 u32 u33 u34 u35 u36 u37 u38 u39 u40 u41 u42 u43 u44 u45 u46 u47 u48 u49 u50 u51 u52 u53 u54 u55 u56 u57 u58 u59 u60 u61 u62 u63 u64 u65 u66 u67 u68 u69 u70 u71 u72 u73 u74 u75 u76 u77 u78 u79 u80 u81 u82 u83 u84 u85 u86 u87 u88 u89 u90 u91 u92 u93 u94 u95 u96 u97 u98 u99 u100 u101 u102 u103 u104 u105 u106 u107 u108 u109 : Value)
    (hK : ∀ (v66 v67 v68 v69 v70 v71 v72 v73 v74 v75 v76 v77 v78 v79 v80 v81 : Value) (W : World), Q W → K .normal ⟨#[.pointer (some ⟨d, 0, none⟩), u1, u2, u3, u4, u5, .pointer (some ⟨b, 0, none⟩), u7, .int .i64 (k : Nat), u9, u10, u11, u12, u13, u14, u15, u16, u17, u18, u19, u20, u21, u22, u23, u24, u25, u26, u27, u28, u29, u30, u31, u32, u33, u34, u35, u36, u37, u38, u39, u40, u41, u42, u43, u44, u45, u46, u47, u48, u49, u50, u51, u52, u53, u54, u55, u56, u57, u58, u59, u60, u61, u62, u63, u64, u65, v66, v67, v68, v69, v70, v71, v72, v73, v74, v75, v76, v77, v78, v79, v80, v81, u82, u83, u84, u85, u86, u87, u88, u89, u90, u91, u92, u93, u94, u95, u96, u97, u98, u99, u100, u101, u102, u103, u104, u105, u106, u107, u108, u109], []⟩ W) :
    Code.wp Tryz.prog cm16C K ⟨#[.pointer (some ⟨d, 0, none⟩), u1, u2, u3, u4, u5, .pointer (some ⟨b, 0, none⟩), u7, .int .i64 (k : Nat), u9, u10, u11, u12, u13, u14, u15, u16, u17, u18, u19, u20, u21, u22, u23, u24, u25, u26, u27, u28, u29, u30, u31, u32, u33, u34, u35, u36, u37, u38, u39, u40, u41, u42, u43, u44, u45, u46, u47, u48, u49, u50, u51, u52, u53, u54, u55, u56, u57, u58, u59, u60, u61, u62, u63, u64, u65, u66, u67, u68, u69, u70, u71, u72, u73, u74, u75, u76, u77, u78, u79, u80, u81, u82, u83, u84, u85, u86, u87, u88, u89, u90, u91, u92, u93, u94, u95, u96, u97, u98, u99, u100, u101, u102, u103, u104, u105, u106, u107, u108, u109], []⟩ w := by
  have HS := Lib.hid hS
  have HC := Lib.hid hC
  clear hS hC
  conv => arg 2; whnf
  try dsimp only at hK ⊢
  refine wp_region_noPanic ?_
  refine wp_region_last (S := fun W => W.cell? ⟨b, 1, none⟩ = some (.int .i64 zp) ∧ W.cell? ⟨b, 2, none⟩ = some (.slice (some ⟨g2, 0, none⟩) n c) ∧ W.cell? ⟨g2, k * 2, none⟩ = some (sv ky) ∧ W.cell? ⟨g2, k * 2 + 1, none⟩ = some (sv vl)) 15 (by kernel_rfl) (HS.out _ ((Keeps.refl [] w).drew)) (fun hHeld => ?_)
  obtain ⟨w0, hw0⟩ : ∃ w0, w.drew = w0 := ⟨_, rfl⟩
  try rw [hw0] at hHeld
  rw [hw0]
  have K0 : Keeps [] w w0 := by rw [← hw0]; exact (Keeps.refl [] w).drew
  clear hw0
  refine wpG_take (nx := [15, 2, 15, 4, 6, 6, 7, 8, 15, 10, 12, 12, 13, 14, 15]) (i := 0) (oi := ⟨some 66, .move (.tmp 0), 26, _, _, none⟩) (v := ?vq13) (by kernel_rfl) rfl (by decide) (by kernel_rfl) (by kernel_rfl) (by kernel_rfl) (fun _ _ _ h => h) (Or.inl ⟨by rfl, fun W hW => ?_⟩) (by assumption) ?_
  rotate_left
  · go_simp
    with_reducible rfl
  try simp only [Act.put, lA, l0, lS]
  refine wpG_take (nx := [15, 2, 15, 4, 6, 6, 7, 8, 15, 10, 12, 12, 13, 14, 15]) (i := 1) (oi := ⟨some 67, .fieldAddr 68 (.tmp 6) 1, 0, _, _, none⟩) (v := ?vq14) (by kernel_rfl) rfl (by decide) (by kernel_rfl) (by kernel_rfl) (by kernel_rfl) (fun _ _ _ h => h) (Or.inl ⟨by rfl, fun W hW => ?_⟩) (by assumption) ?_
  rotate_left
  · go_simp
    with_reducible rfl
  try simp only [Act.put, lA, l0, lS]
  refine wpG_take (nx := [15, 2, 15, 4, 6, 6, 7, 8, 15, 10, 12, 12, 13, 14, 15]) (i := 2) (oi := ⟨some 68, .load 3 (.tmp 67), 3, _, _, none⟩) (v := .int .i64 zp) (by kernel_rfl) rfl (by decide) (by kernel_rfl) (by kernel_rfl) (by kernel_rfl) (fun _ _ _ h => h) (Or.inl ⟨by rfl, fun W hW => ?_⟩) (by assumption) ?_
  · (obtain ⟨a0, a1, a2, a3⟩ := hW; go_simp)
  try simp only [Act.put, lA, l0, lS]
  refine wpG_take (nx := [15, 2, 15, 4, 6, 6, 7, 8, 15, 10, 12, 12, 13, 14, 15]) (i := 3) (oi := ⟨some 69, .fieldAddr 68 (.tmp 6) 2, 0, _, _, none⟩) (v := ?vq15) (by kernel_rfl) rfl (by decide) (by kernel_rfl) (by kernel_rfl) (by kernel_rfl) (fun _ _ _ h => h) (Or.inl ⟨by rfl, fun W hW => ?_⟩) (by assumption) ?_
  rotate_left
  · go_simp
    with_reducible rfl
  try simp only [Act.put, lA, l0, lS]
  refine wpG_take (nx := [15, 2, 15, 4, 6, 6, 7, 8, 15, 10, 12, 12, 13, 14, 15]) (i := 4) (oi := ⟨some 70, .load 47 (.tmp 69), 47, _, _, none⟩) (v := .slice (some ⟨g2, 0, none⟩) n c) (by kernel_rfl) rfl (by decide) (by kernel_rfl) (by kernel_rfl) (by kernel_rfl) (fun _ _ _ h => h) (Or.inl ⟨by rfl, fun W hW => ?_⟩) (by assumption) ?_
  · (obtain ⟨a0, a1, a2, a3⟩ := hW; go_simp)
  try simp only [Act.put, lA, l0, lS]
  refine wpG_take (nx := [15, 2, 15, 4, 6, 6, 7, 8, 15, 10, 12, 12, 13, 14, 15]) (i := 5) (oi := ⟨some 71, .move (.tmp 8), 3, _, _, none⟩) (v := ?vq16) (by kernel_rfl) rfl (by decide) (by kernel_rfl) (by kernel_rfl) (by kernel_rfl) (fun _ _ _ h => h) (Or.inl ⟨by rfl, fun W hW => ?_⟩) (by assumption) ?_
  rotate_left
  · go_simp
    with_reducible rfl
  try simp only [Act.put, lA, l0, lS]
  refine wpG_take (nx := [15, 2, 15, 4, 6, 6, 7, 8, 15, 10, 12, 12, 13, 14, 15]) (i := 6) (oi := ⟨some 72, .indexAddr 47 (.tmp 70) (.tmp 71), 0, _, _, none⟩) (v := ?vq17) (by kernel_rfl) rfl (by decide) (by kernel_rfl) (by kernel_rfl) (by kernel_rfl) (fun _ _ _ h => h) (Or.inl ⟨by rfl, fun W hW => ?_⟩) (by assumption) ?_
  rotate_left
  · go_simp
    with_reducible rfl
  try simp only [Act.put, lA, l0, lS]
  refine wpG_take (nx := [15, 2, 15, 4, 6, 6, 7, 8, 15, 10, 12, 12, 13, 14, 15]) (i := 7) (oi := ⟨some 73, .fieldAddr 88 (.tmp 72) 0, 0, _, _, none⟩) (v := ?vq18) (by kernel_rfl) rfl (by decide) (by kernel_rfl) (by kernel_rfl) (by kernel_rfl) (fun _ _ _ h => h) (Or.inl ⟨by rfl, fun W hW => ?_⟩) (by assumption) ?_
  rotate_left
  · go_simp
    with_reducible rfl
  try simp only [Act.put, lA, l0, lS]
  refine wpG_take (nx := [15, 2, 15, 4, 6, 6, 7, 8, 15, 10, 12, 12, 13, 14, 15]) (i := 8) (oi := ⟨some 74, .load 9 (.tmp 73), 9, _, _, none⟩) (v := sv ky) (by kernel_rfl) rfl (by decide) (by kernel_rfl) (by kernel_rfl) (by kernel_rfl) (fun _ _ _ h => h) (Or.inl ⟨by rfl, fun W hW => ?_⟩) (by assumption) ?_
  · (obtain ⟨a0, a1, a2, a3⟩ := hW; go_simp)
  try simp only [Act.put, lA, l0, lS]
  refine wpG_take (nx := [15, 2, 15, 4, 6, 6, 7, 8, 15, 10, 12, 12, 13, 14, 15]) (i := 9) (oi := ⟨some 75, .fieldAddr 68 (.tmp 6) 2, 0, _, _, none⟩) (v := ?vq19) (by kernel_rfl) rfl (by decide) (by kernel_rfl) (by kernel_rfl) (by kernel_rfl) (fun _ _ _ h => h) (Or.inl ⟨by rfl, fun W hW => ?_⟩) (by assumption) ?_
  rotate_left
  · go_simp
    with_reducible rfl
  try simp only [Act.put, lA, l0, lS]
  refine wpG_take (nx := [15, 2, 15, 4, 6, 6, 7, 8, 15, 10, 12, 12, 13, 14, 15]) (i := 10) (oi := ⟨some 76, .load 47 (.tmp 75), 47, _, _, none⟩) (v := .slice (some ⟨g2, 0, none⟩) n c) (by kernel_rfl) rfl (by decide) (by kernel_rfl) (by kernel_rfl) (by kernel_rfl) (fun _ _ _ h => h) (Or.inl ⟨by rfl, fun W hW => ?_⟩) (by assumption) ?_
  · (obtain ⟨a0, a1, a2, a3⟩ := hW; go_simp)
  try simp only [Act.put, lA, l0, lS]
  refine wpG_take (nx := [15, 2, 15, 4, 6, 6, 7, 8, 15, 10, 12, 12, 13, 14, 15]) (i := 11) (oi := ⟨some 77, .move (.tmp 8), 3, _, _, none⟩) (v := ?vq20) (by kernel_rfl) rfl (by decide) (by kernel_rfl) (by kernel_rfl) (by kernel_rfl) (fun _ _ _ h => h) (Or.inl ⟨by rfl, fun W hW => ?_⟩) (by assumption) ?_
  rotate_left
  · go_simp
    with_reducible rfl
  try simp only [Act.put, lA, l0, lS]
  refine wpG_take (nx := [15, 2, 15, 4, 6, 6, 7, 8, 15, 10, 12, 12, 13, 14, 15]) (i := 12) (oi := ⟨some 78, .indexAddr 47 (.tmp 76) (.tmp 77), 0, _, _, none⟩) (v := ?vq21) (by kernel_rfl) rfl (by decide) (by kernel_rfl) (by kernel_rfl) (by kernel_rfl) (fun _ _ _ h => h) (Or.inl ⟨by rfl, fun W hW => ?_⟩) (by assumption) ?_
  rotate_left
  · go_simp
    with_reducible rfl
  try simp only [Act.put, lA, l0, lS]
  refine wpG_take (nx := [15, 2, 15, 4, 6, 6, 7, 8, 15, 10, 12, 12, 13, 14, 15]) (i := 13) (oi := ⟨some 79, .fieldAddr 88 (.tmp 78) 1, 0, _, _, none⟩) (v := ?vq22) (by kernel_rfl) rfl (by decide) (by kernel_rfl) (by kernel_rfl) (by kernel_rfl) (fun _ _ _ h => h) (Or.inl ⟨by rfl, fun W hW => ?_⟩) (by assumption) ?_
  rotate_left
  · go_simp
    with_reducible rfl
  try simp only [Act.put, lA, l0, lS]
  refine wpG_take (nx := [15, 2, 15, 4, 6, 6, 7, 8, 15, 10, 12, 12, 13, 14, 15]) (i := 14) (oi := ⟨some 80, .load 9 (.tmp 79), 9, _, _, none⟩) (v := sv vl) (by kernel_rfl) rfl (by decide) (by kernel_rfl) (by kernel_rfl) (by kernel_rfl) (fun _ _ _ h => h) (Or.inl ⟨by rfl, fun W hW => ?_⟩) (by assumption) ?_
  · (obtain ⟨a0, a1, a2, a3⟩ := hW; go_simp)
  try simp only [Act.put, lA, l0, lS]
  refine wpG_ready (rs := [15]) (by kernel_rfl) (by simp) ?_
  refine AllG.last (o := ⟨some 81, .call { callee := .value (.func 46), args := #[.tmp 66, .tmp 68, .tmp 74, .tmp 80], argTypes := #[26, 3, 9, 9] }, 0, _, _, none⟩) rfl (fun KK hKK => ?_)
  refine step_callW (by rfl) 46 _ _ rfl #[.pointer (some ⟨d, 0, none⟩), .int .i64 zp, sv ky, sv vl] (by first | (simp [Act.eval]; done) | (simp [Act.eval, Act.put]; done)) (enters_of Tryz.func46 (by kernel_rfl) rfl) (HC.out _ K0) ?_
  rintro e W9 ⟨rfl, q9⟩
  refine ⟨_, rfl, ?_⟩
  refine hKK.out _ _ ?_
  clear hKK KK hHeld
  try simp only [Act.put, lA, l0, lS]
  refine wpG_done (by kernel_rfl) ?_ _
  refine NoPanic.normal ?_
  exact hK _ _ _ _ _ _ _ _ _ _ _ _ _ _ _ _ _ q9
noncomputable def cm20C : Code := ((Tryz.f50.body.bind (theRegion 20)).getD .skip)
set_option maxRecDepth 1000000 in
set_option maxHeartbeats 1600000 in
set_option linter.unusedSimpArgs false in
theorem cm20_any (w : World) (d b g2 n c k : Nat) (zp : Int) (ky vl : Str) (Q : World → Prop) (K : Exit → Act → World → Prop)
    (hS : ∀ W, Keeps [] w W → W.cell? ⟨b, 1, none⟩ = some (.int .i64 zp) ∧ W.cell? ⟨b, 4, none⟩ = some (.slice (some ⟨g2, 0, none⟩) n c) ∧ W.cell? ⟨g2, k * 2, none⟩ = some (sv ky) ∧ W.cell? ⟨g2, k * 2 + 1, none⟩ = some (sv vl))
    (hC : ∀ W, Keeps [] w W → Calls Tryz.prog 48 #[.pointer (some ⟨d, 0, none⟩), .int .i64 zp, sv ky, sv vl] W fun e w' => e = .returned (.tuple #[]) ∧ Q w')
    (i0 : (0 : Int) ≤ (k : Int)) (i1 : (k : Int) < (n : Int))
    (u1 u2 u3 u4 u5 u7 u8 u10 u11 u12 u13 u14 u15 u16 u17 u18 u19 u20 u21 u22 u23 u24 u25 u26 u27 u28 u29 u30 u31 u32 u33 u34 u35 u36 u37 u38 u39 u40 u41 u42 u43 u44 u45 u46 u47 u48 u49 u50 u51 u52 u53 u54 u55 u56 u57 u58 u59 u60 u61 u62 u63 u64 u65 u66 u67 u68 u69 u70 u71 u72 u73 u74 u75 u76 u77 u78 u79 u80 u81 u82 u83 u84 u85 u86 u87 u88 u89 u90 u91 u92 u93 u94 u95 u96 u97 u98 u99 u100 u101 u102 u103 u104 u105 u106 u107 u108 u109 : Value)
    (hK : ∀ (v89 v90 v91 v92 v93 v94 v95 v96 v97 v98 v99 v100 v101 v102 v103 v104 : Value) (W : World), Q W → K .normal ⟨#[.pointer (some ⟨d, 0, none⟩), u1, u2, u3, u4, u5, .pointer (some ⟨b, 0, none⟩), u7, u8, .int .i64 (k : Nat), u10, u11, u12, u13, u14, u15, u16, u17, u18, u19, u20, u21, u22, u23, u24, u25, u26, u27, u28, u29, u30, u31, u32, u33, u34, u35, u36, u37, u38, u39, u40, u41, u42, u43, u44, u45, u46, u47, u48, u49, u50, u51, u52, u53, u54, u55, u56, u57, u58, u59, u60, u61, u62, u63, u64, u65, u66, u67, u68, u69, u70, u71, u72, u73, u74, u75, u76, u77, u78, u79, u80, u81, u82, u83, u84, u85, u86, u87, u88, v89, v90, v91, v92, v93, v94, v95, v96, v97, v98, v99, v100, v101, v102, v103, v104, u105, u106, u107, u108, u109], []⟩ W) :
    Code.wp Tryz.prog cm20C K ⟨#[.pointer (some ⟨d, 0, none⟩), u1, u2, u3, u4, u5, .pointer (some ⟨b, 0, none⟩), u7, u8, .int .i64 (k : Nat), u10, u11, u12, u13, u14, u15, u16, u17, u18, u19, u20, u21, u22, u23, u24, u25, u26, u27, u28, u29, u30, u31, u32, u33, u34, u35, u36, u37, u38, u39, u40, u41, u42, u43, u44, u45, u46, u47, u48, u49, u50, u51, u52, u53, u54, u55, u56, u57, u58, u59, u60, u61, u62, u63, u64, u65, u66, u67, u68, u69, u70, u71, u72, u73, u74, u75, u76, u77, u78, u79, u80, u81, u82, u83, u84, u85, u86, u87, u88, u89, u90, u91, u92, u93, u94, u95, u96, u97, u98, u99, u100, u101, u102, u103, u104, u105, u106, u107, u108, u109], []⟩ w := by
  have HS := Lib.hid hS
  have HC := Lib.hid hC
  clear hS hC
  conv => arg 2; whnf
  try dsimp only at hK ⊢
  refine wp_region_noPanic ?_
  refine wp_region_last (S := fun W => W.cell? ⟨b, 1, none⟩ = some (.int .i64 zp) ∧ W.cell? ⟨b, 4, none⟩ = some (.slice (some ⟨g2, 0, none⟩) n c) ∧ W.cell? ⟨g2, k * 2, none⟩ = some (sv ky) ∧ W.cell? ⟨g2, k * 2 + 1, none⟩ = some (sv vl)) 15 (by kernel_rfl) (HS.out _ ((Keeps.refl [] w).drew)) (fun hHeld => ?_)
  obtain ⟨w0, hw0⟩ : ∃ w0, w.drew = w0 := ⟨_, rfl⟩
  try rw [hw0] at hHeld
  rw [hw0]
  have K0 : Keeps [] w w0 := by rw [← hw0]; exact (Keeps.refl [] w).drew
  clear hw0
  refine wpG_take (nx := [15, 2, 15, 4, 6, 6, 7, 8, 15, 10, 12, 12, 13, 14, 15]) (i := 0) (oi := ⟨some 89, .move (.tmp 0), 26, _, _, none⟩) (v := ?vq23) (by kernel_rfl) rfl (by decide) (by kernel_rfl) (by kernel_rfl) (by kernel_rfl) (fun _ _ _ h => h) (Or.inl ⟨by rfl, fun W hW => ?_⟩) (by assumption) ?_
  rotate_left
  · go_simp
    with_reducible rfl
  try simp only [Act.put, lA, l0, lS]
  refine wpG_take (nx := [15, 2, 15, 4, 6, 6, 7, 8, 15, 10, 12, 12, 13, 14, 15]) (i := 1) (oi := ⟨some 90, .fieldAddr 68 (.tmp 6) 1, 0, _, _, none⟩) (v := ?vq24) (by kernel_rfl) rfl (by decide) (by kernel_rfl) (by kernel_rfl) (by kernel_rfl) (fun _ _ _ h => h) (Or.inl ⟨by rfl, fun W hW => ?_⟩) (by assumption) ?_
  rotate_left
  · go_simp
    with_reducible rfl
  try simp only [Act.put, lA, l0, lS]
  refine wpG_take (nx := [15, 2, 15, 4, 6, 6, 7, 8, 15, 10, 12, 12, 13, 14, 15]) (i := 2) (oi := ⟨some 91, .load 3 (.tmp 90), 3, _, _, none⟩) (v := .int .i64 zp) (by kernel_rfl) rfl (by decide) (by kernel_rfl) (by kernel_rfl) (by kernel_rfl) (fun _ _ _ h => h) (Or.inl ⟨by rfl, fun W hW => ?_⟩) (by assumption) ?_
  · (obtain ⟨a0, a1, a2, a3⟩ := hW; go_simp)
  try simp only [Act.put, lA, l0, lS]
  refine wpG_take (nx := [15, 2, 15, 4, 6, 6, 7, 8, 15, 10, 12, 12, 13, 14, 15]) (i := 3) (oi := ⟨some 92, .fieldAddr 68 (.tmp 6) 4, 0, _, _, none⟩) (v := ?vq25) (by kernel_rfl) rfl (by decide) (by kernel_rfl) (by kernel_rfl) (by kernel_rfl) (fun _ _ _ h => h) (Or.inl ⟨by rfl, fun W hW => ?_⟩) (by assumption) ?_
  rotate_left
  · go_simp
    with_reducible rfl
  try simp only [Act.put, lA, l0, lS]
  refine wpG_take (nx := [15, 2, 15, 4, 6, 6, 7, 8, 15, 10, 12, 12, 13, 14, 15]) (i := 4) (oi := ⟨some 93, .load 66 (.tmp 92), 66, _, _, none⟩) (v := .slice (some ⟨g2, 0, none⟩) n c) (by kernel_rfl) rfl (by decide) (by kernel_rfl) (by kernel_rfl) (by kernel_rfl) (fun _ _ _ h => h) (Or.inl ⟨by rfl, fun W hW => ?_⟩) (by assumption) ?_
  · (obtain ⟨a0, a1, a2, a3⟩ := hW; go_simp)
  try simp only [Act.put, lA, l0, lS]
  refine wpG_take (nx := [15, 2, 15, 4, 6, 6, 7, 8, 15, 10, 12, 12, 13, 14, 15]) (i := 5) (oi := ⟨some 94, .move (.tmp 9), 3, _, _, none⟩) (v := ?vq26) (by kernel_rfl) rfl (by decide) (by kernel_rfl) (by kernel_rfl) (by kernel_rfl) (fun _ _ _ h => h) (Or.inl ⟨by rfl, fun W hW => ?_⟩) (by assumption) ?_
  rotate_left
  · go_simp
    with_reducible rfl
  try simp only [Act.put, lA, l0, lS]
  refine wpG_take (nx := [15, 2, 15, 4, 6, 6, 7, 8, 15, 10, 12, 12, 13, 14, 15]) (i := 6) (oi := ⟨some 95, .indexAddr 66 (.tmp 93) (.tmp 94), 0, _, _, none⟩) (v := ?vq27) (by kernel_rfl) rfl (by decide) (by kernel_rfl) (by kernel_rfl) (by kernel_rfl) (fun _ _ _ h => h) (Or.inl ⟨by rfl, fun W hW => ?_⟩) (by assumption) ?_
  rotate_left
  · go_simp
    with_reducible rfl
  try simp only [Act.put, lA, l0, lS]
  refine wpG_take (nx := [15, 2, 15, 4, 6, 6, 7, 8, 15, 10, 12, 12, 13, 14, 15]) (i := 7) (oi := ⟨some 96, .fieldAddr 96 (.tmp 95) 0, 0, _, _, none⟩) (v := ?vq28) (by kernel_rfl) rfl (by decide) (by kernel_rfl) (by kernel_rfl) (by kernel_rfl) (fun _ _ _ h => h) (Or.inl ⟨by rfl, fun W hW => ?_⟩) (by assumption) ?_
  rotate_left
  · go_simp
    with_reducible rfl
  try simp only [Act.put, lA, l0, lS]
  refine wpG_take (nx := [15, 2, 15, 4, 6, 6, 7, 8, 15, 10, 12, 12, 13, 14, 15]) (i := 8) (oi := ⟨some 97, .load 9 (.tmp 96), 9, _, _, none⟩) (v := sv ky) (by kernel_rfl) rfl (by decide) (by kernel_rfl) (by kernel_rfl) (by kernel_rfl) (fun _ _ _ h => h) (Or.inl ⟨by rfl, fun W hW => ?_⟩) (by assumption) ?_
  · (obtain ⟨a0, a1, a2, a3⟩ := hW; go_simp)
  try simp only [Act.put, lA, l0, lS]
  refine wpG_take (nx := [15, 2, 15, 4, 6, 6, 7, 8, 15, 10, 12, 12, 13, 14, 15]) (i := 9) (oi := ⟨some 98, .fieldAddr 68 (.tmp 6) 4, 0, _, _, none⟩) (v := ?vq29) (by kernel_rfl) rfl (by decide) (by kernel_rfl) (by kernel_rfl) (by kernel_rfl) (fun _ _ _ h => h) (Or.inl ⟨by rfl, fun W hW => ?_⟩) (by assumption) ?_
  rotate_left
  · go_simp
    with_reducible rfl
  try simp only [Act.put, lA, l0, lS]
  refine wpG_take (nx := [15, 2, 15, 4, 6, 6, 7, 8, 15, 10, 12, 12, 13, 14, 15]) (i := 10) (oi := ⟨some 99, .load 66 (.tmp 98), 66, _, _, none⟩) (v := .slice (some ⟨g2, 0, none⟩) n c) (by kernel_rfl) rfl (by decide) (by kernel_rfl) (by kernel_rfl) (by kernel_rfl) (fun _ _ _ h => h) (Or.inl ⟨by rfl, fun W hW => ?_⟩) (by assumption) ?_
  · (obtain ⟨a0, a1, a2, a3⟩ := hW; go_simp)
  try simp only [Act.put, lA, l0, lS]
  refine wpG_take (nx := [15, 2, 15, 4, 6, 6, 7, 8, 15, 10, 12, 12, 13, 14, 15]) (i := 11) (oi := ⟨some 100, .move (.tmp 9), 3, _, _, none⟩) (v := ?vq30) (by kernel_rfl) rfl (by decide) (by kernel_rfl) (by kernel_rfl) (by kernel_rfl) (fun _ _ _ h => h) (Or.inl ⟨by rfl, fun W hW => ?_⟩) (by assumption) ?_
  rotate_left
  · go_simp
    with_reducible rfl
  try simp only [Act.put, lA, l0, lS]
  refine wpG_take (nx := [15, 2, 15, 4, 6, 6, 7, 8, 15, 10, 12, 12, 13, 14, 15]) (i := 12) (oi := ⟨some 101, .indexAddr 66 (.tmp 99) (.tmp 100), 0, _, _, none⟩) (v := ?vq31) (by kernel_rfl) rfl (by decide) (by kernel_rfl) (by kernel_rfl) (by kernel_rfl) (fun _ _ _ h => h) (Or.inl ⟨by rfl, fun W hW => ?_⟩) (by assumption) ?_
  rotate_left
  · go_simp
    with_reducible rfl
  try simp only [Act.put, lA, l0, lS]
  refine wpG_take (nx := [15, 2, 15, 4, 6, 6, 7, 8, 15, 10, 12, 12, 13, 14, 15]) (i := 13) (oi := ⟨some 102, .fieldAddr 96 (.tmp 101) 1, 0, _, _, none⟩) (v := ?vq32) (by kernel_rfl) rfl (by decide) (by kernel_rfl) (by kernel_rfl) (by kernel_rfl) (fun _ _ _ h => h) (Or.inl ⟨by rfl, fun W hW => ?_⟩) (by assumption) ?_
  rotate_left
  · go_simp
    with_reducible rfl
  try simp only [Act.put, lA, l0, lS]
  refine wpG_take (nx := [15, 2, 15, 4, 6, 6, 7, 8, 15, 10, 12, 12, 13, 14, 15]) (i := 14) (oi := ⟨some 103, .load 9 (.tmp 102), 9, _, _, none⟩) (v := sv vl) (by kernel_rfl) rfl (by decide) (by kernel_rfl) (by kernel_rfl) (by kernel_rfl) (fun _ _ _ h => h) (Or.inl ⟨by rfl, fun W hW => ?_⟩) (by assumption) ?_
  · (obtain ⟨a0, a1, a2, a3⟩ := hW; go_simp)
  try simp only [Act.put, lA, l0, lS]
  refine wpG_ready (rs := [15]) (by kernel_rfl) (by simp) ?_
  refine AllG.last (o := ⟨some 104, .call { callee := .value (.func 48), args := #[.tmp 89, .tmp 91, .tmp 97, .tmp 103], argTypes := #[26, 3, 9, 9] }, 0, _, _, none⟩) rfl (fun KK hKK => ?_)
  refine step_callW (by rfl) 48 _ _ rfl #[.pointer (some ⟨d, 0, none⟩), .int .i64 zp, sv ky, sv vl] (by first | (simp [Act.eval]; done) | (simp [Act.eval, Act.put]; done)) (enters_of Tryz.func48 (by kernel_rfl) rfl) (HC.out _ K0) ?_
  rintro e W9 ⟨rfl, q9⟩
  refine ⟨_, rfl, ?_⟩
  refine hKK.out _ _ ?_
  clear hKK KK hHeld
  try simp only [Act.put, lA, l0, lS]
  refine wpG_done (by kernel_rfl) ?_ _
  refine NoPanic.normal ?_
  exact hK _ _ _ _ _ _ _ _ _ _ _ _ _ _ _ _ _ q9
theorem RTurn.comp {w w1 w' : World} {d : Nat} {F G F1 G1 : List Nat} {D : St} (hq : (∀ g ∈ F1, g ∈ F ∨ w.heap.size ≤ g) ∧ (∀ g ∈ G1, g ∈ G ∨ w.heap.size ≤ g) ∧ Keeps F w w1) (h : RTurn w1 w' d F1 G1 D) : RTurn w w' d F G D := by
  obtain ⟨F2, G2, k1, k2, k3, k4⟩ := h
  obtain ⟨h2, h3, h4⟩ := hq
  have hs := h4.size
  refine ⟨F2, G2, k1, fun g hg => ?_, fun g hg => ?_, h4.trans k4 (fun g hg => h2 g hg)⟩
  · rcases k2 g hg with h | h
    · exact h2 g h
    · exact .inr (by omega)
  · rcases k3 g hg with h | h
    · exact h3 g h
    · exact .inr (by omega)
theorem putAll_snoc (C : St) (p : Int) (l : List (Str × Str)) (k : Nat) (hk : k < l.length) : putAll C p (l.take (k + 1)) = putP (putAll C p (l.take k)) p l[k].1 l[k].2 := by
  rw [List.take_succ_eq_append_getElem hk]
  unfold putAll
  rw [List.foldl_append]
  rfl
theorem logAll_snoc (C : St) (p : Int) (l : List (Str × Str)) (k : Nat) (hk : k < l.length) : logAll C p (l.take (k + 1)) = logP (logAll C p (l.take k)) p l[k].1 l[k].2 := by
  rw [List.take_succ_eq_append_getElem hk]
  unfold logAll
  rw [List.foldl_append]
  rfl
theorem len_put (C : St) (i : Int) (k v : Str) : (putP C i k v).length = C.length := upd_len _ _ _
theorem len_log (C : St) (i : Int) (k v : Str) : (logP C i k v).length = C.length := upd_len _ _ _
/-- A state on the way of a commit. -/
structure Way (P : List Str) (n z : Nat) (S : St) : Prop where
  wf : WF P S
  len : S.length = n
  lg : lgSize S ≤ z
theorem pair_cells {w : World} {t : TypeId} {A : Option Addr} {n c : Nat} {l : List (Str × Str)} (ho : w.ownsRow 0 t 2 (.slice A n c) n (rw pc l)) {k : Nat} (hk : k < l.length) (hn : k < n) : ∃ g, A = some ⟨g, 0, none⟩ ∧ w.cell? ⟨g, k * 2, none⟩ = some (sv l[k].1) ∧ w.cell? ⟨g, k * 2 + 1, none⟩ = some (sv l[k].2) := by
  obtain ⟨A', c', hv, -, -, hA⟩ := own_shape ho
  obtain ⟨g, hg⟩ := hA (by omega)
  obtain ⟨rfl, rfl⟩ : A = A' ∧ c = c' := by injection hv with h1 h2 h3; exact ⟨h1, h3⟩
  subst hg
  exact ⟨g, rfl, own_cell ho (by rw [← Nat.add_zero (k * 2), rw_at pc_len hk (by omega)]; rfl), own_cell ho (by rw [rw_at pc_len hk (by omega)]; rfl)⟩
theorem lgLen_app (l m : List (Str × Str)) : lgLen (l ++ m) = lgLen l + lgLen m := by
  unfold lgLen
  rw [List.map_append, List.sum_append]
theorem lgLen_take (l : List (Str × Str)) (q : Nat) : lgLen (l.take q) ≤ lgLen l := by
  have h : lgLen (l.take q ++ l.drop q) = lgLen (l.take q) + lgLen (l.drop q) := lgLen_app _ _
  rw [List.take_append_drop] at h
  omega
theorem lgLen_snoc (l : List (Str × Str)) {q : Nat} (hq : q < l.length) : lgLen (l.take (q + 1)) = lgLen (l.take q) + l[q].2.length := by
  rw [List.take_succ_eq_append_getElem hq, lgLen_app]
  simp [lgLen]
set_option maxRecDepth 100000 in
set_option maxHeartbeats 12800000 in
theorem rCommit_any {P : List Str} {w : World} {d : Nat} {F G : List Nat} {C : St} (h : Rf w d F G C) (hW : WF P C) (hP : PoolOk P) (hl : C.length ≤ 1000000) (hlg : lgSize C ≤ 200000000) (i : Int) :
    Calls Tryz.prog 50 #[.pointer (some ⟨d, 0, none⟩), .int .i64 i] w fun e w' => e = .returned (.int .i64 (commitP C i).1) ∧ RTurn w w' d F G (commitP C i).2 := by
  have HS := Lib.hid (RTurn.same h (Keeps.refl [] w))
  cases hh : has C i with
  | false =>
    have e0 : commitP C i = (4, C) := by unfold commitP; rw [find_none.2 hh]
    rw [e0]
    have CP := Lib.hid (place_any h hl i)
    rw [plc_no hh] at CP
    clear h hh e0
    go_enter Tryz.func50, Tryz.ntmps50
    go_wp2_with fail
    refine CP.out.mono ?_
    rintro e w1 ⟨rfl, rfl⟩
    go_wp2_with fail
    go_ret
    exact ⟨rfl, HS.out⟩
  | true =>
    have hR0 := hW.tree.row0
    obtain ⟨x, j, g, n, cap, A1, A2, A3, p1, p2, p3, hf, hx, rfl, hp, hj, hn, hz, hpl⟩ := h.open_ hR0 hh
    have CP := Lib.hid (place_any h hl x.id)
    rw [hp] at CP
    by_cases h0 : x.id = 0
    · have e0 : commitP C x.id = (4, C) := by unfold commitP; rw [hf]; dsimp only; rw [if_pos h0]
      rw [e0]
      have hj0 : j = 0 := hz.2 h0
      subst hj0
      clear h hh e0 hf hx hp hj hn hz hpl h0 hR0
      go_enter Tryz.func50, Tryz.ntmps50
      go_wp2_with fail
      refine CP.out.mono ?_
      rintro e w1 ⟨rfl, rfl⟩
      go_wp2_with fail
      go_ret
      exact ⟨rfl, HS.out⟩
    have i0 : ¬ ((j : Int) ≤ 0) := by
      intro h1
      exact h0 (hz.1 (by omega))
    have CC := Lib.hid (rChildren_any h hR0 hl x.id)
    by_cases hk0 : 0 < kids C x.id
    · have e0 : commitP C x.id = (8, C) := by unfold commitP; rw [hf]; dsimp only; rw [if_neg h0, if_pos hk0]
      rw [e0]
      rw [decide_eq_true hk0] at CC
      clear h hh e0 hf hx hp hj hn hz hpl h0 hR0 hk0
      go_enter Tryz.func50, Tryz.ntmps50
      go_wp2_with fail
      refine CP.out.mono ?_
      rintro e w1 ⟨rfl, rfl⟩
      go_wp2_with fail
      refine CC.out.mono ?_
      rintro e w2 ⟨rfl, rfl⟩
      go_wp2_with fail
      go_ret
      exact ⟨rfl, HS.out⟩
    have e0 : commitP C x.id = (0, dropP (give C x) x.id) := by unfold commitP; rw [hf]; dsimp only; rw [if_neg h0, if_neg hk0]
    rw [e0]
    rw [decide_eq_false hk0] at CC
    have hok := hW.ok x hx
    have hwl : x.wr.length ≤ 1000000 := hP.leK hok.wr hok.wp
    have hll : x.lg.length ≤ 1000000 := hP.leK hok.lg hok.lp
    have hrl : x.rd.length ≤ 2000000 := rd_le hW hP hx
    have hxl : lgLen x.lg ≤ lgSize C := lgSize_mem hx
    have hnl : n ≤ 1000000 := by omega
    have i2 : (0 : Int) ≤ (j : Int) := by omega
    have i3 : (j : Int) < (n : Int) := by omega
    have HOK := Lib.hid hok
    have HR := Lib.hid h
    have HOV := Lib.hid hpl.o
    have HLG := Lib.hid hlg
    have HXL := Lib.hid hxl
    have HWAY : Hid (Way P n (lgSize C) C) := Lib.hid ⟨hW, hn.symm, Nat.le_refl _⟩
    have HFX : Hid (find C x.id = some x) := Lib.hid hf
    obtain ⟨f0, c0, c1, c2, c3, c4, -, -, -⟩ := hpl
    obtain ⟨zs, hzs⟩ : ∃ zs, lgSize C = zs := ⟨_, rfl⟩
    rw [hzs] at HLG HXL HWAY
    have HNN : Hid (n = C.length) := Lib.hid hn
    clear h hh e0 hf hx hp hj hn hz h0 hR0 hk0 hok hxl hlg hl hW HS hzs
    go_enter Tryz.func50, Tryz.ntmps50
    go_wp2_with fail
    refine CP.out.mono ?_
    rintro e w1 ⟨rfl, rfl⟩
    clear CP
    go_wp2_with fail
    refine CC.out.mono ?_
    rintro e w1 ⟨rfl, rfl⟩
    clear CC
    go_wp2_with fail
    obtain ⟨W, hW⟩ : ∃ W, w1.alloc (.cells #[.int .i64 x.id, .int .i64 x.par, .slice A1 x.wr.length p1, .slice A2 x.rd.length p2, .slice A3 x.lg.length p3] 68) = W := ⟨_, rfl⟩
    obtain ⟨b, hb⟩ : ∃ b, w1.heap.size = b := ⟨_, rfl⟩
    have b0 : Blk W b 68 #[.int .i64 x.id, .int .i64 x.par, .slice A1 x.wr.length p1, .slice A2 x.rd.length p2, .slice A3 x.lg.length p3] := by rw [← hW, ← hb]; exact Blk.new _ _ _
    have k0 : Keeps [] w1 W := by rw [← hW]; exact (Keeps.refl _ _).alloc _
    rw [hW]
    rw [hb]
    have KB := Lib.hid k0
    have BB := Lib.hid b0
    have HR2 := Lib.hid (HR.out.keep0 k0)
    have HBF : Hid (b ∉ F) := Lib.hid (fun h' => by have := HR.out.ltF b h'; omega)
    have HGF : Hid (∀ g ∈ G, g ∉ F) := Lib.hid (by obtain ⟨_, _, _, hm⟩ := HR.out; exact hm.off)
    have OV := Lib.hid (HOV.out.keep0 k0)
    have HT0 : Hid (RTurn W W d F G (reAsk C x.par (x.rd.take 0))) := Lib.hid (RTurn.same HR2.out (Keeps.refl _ _))
    clear hW hb k0 b0 f0 c0 c1 c2 c3 c4 i0 HR HOV i2 i3
    go_loopw [7] (fun iv wr => ∃ q : Nat, q ≤ x.rd.length ∧ iv = .int .i64 q ∧ RTurn W wr d F G (reAsk C x.par (x.rd.take q)) ∧ Way P n zs (reAsk C x.par (x.rd.take q))) (fun iv _ => x.rd.length - (intOf iv).toNat)
    case atStart => exact ⟨0, by omega, rfl, HT0.out, HWAY.out⟩
    case round =>
      obtain ⟨q, hq, rfl, hT, hw0⟩ := hrel
      clear HT0
      have HT := Lib.hid hT
      have HW := Lib.hid hw0
      clear hT hw0
      obtain ⟨F2, G2, hrf2, q1, q2, q3⟩ := HT.out
      have HRF2 := Lib.hid hrf2
      have HQ : Hid ((∀ g ∈ F2, g ∈ F ∨ W.heap.size ≤ g) ∧ (∀ g ∈ G2, g ∈ G ∨ W.heap.size ≤ g) ∧ Keeps F W wr) := Lib.hid ⟨q1, q2, q3⟩
      have BB2 := Lib.hid (BB.out.keep q3 (fun h => HBF.out h))
      have OV2 := Lib.hid (OV.out.keep q3 HGF.out)
      clear hrf2 q1 q2 q3
      have f3 : wr.cell? ⟨b, 3, none⟩ = some (.slice A2 x.rd.length p2) := BB2.out.cell 3
      by_cases hlt : q < x.rd.length
      · obtain ⟨g2, c2, u, hv2, y0, y1, -⟩ := rd_cells OV2.out.rd hlt
        dsimp only at hv2
        obtain ⟨rfl, rfl⟩ : A2 = some ⟨g2, 0, none⟩ ∧ p2 = c2 := by injection hv2 with h1 h2 h3; exact ⟨h1, h3⟩
        have hsn := reAsk_snoc C x.par x.rd q hlt
        have hkc : ∀ k v, x.rd[q] = .cell k v → k ∈ P := fun k v e => HOK.out.cp k (mem_cellKeys (by rw [← e]; exact List.getElem_mem hlt))
        have hkp : ∀ k v, x.rd[q] = .keys k v → k ∈ P := fun k v e => HOK.out.pp k (mem_prefixes (by rw [← e]; exact List.getElem_mem hlt))
        obtain ⟨S, hS⟩ : ∃ S, reAsk C x.par (x.rd.take q) = S := ⟨_, rfl⟩
        rw [hS] at HRF2 HW hsn
        obtain ⟨r, hr⟩ : ∃ r, x.rd[q] = r := ⟨_, rfl⟩
        rw [hr] at y0 y1 hsn hkc hkp
        have HSN := Lib.hid hsn
        have HSS : Hid (∀ W0, Keeps [] wr W0 → W0.cell? ⟨b, 1, none⟩ = some (.int .i64 x.par) ∧ W0.cell? ⟨b, 3, none⟩ = some (.slice (some ⟨g2, 0, none⟩) x.rd.length p2) ∧ W0.cell? ⟨g2, q * 4 + 1, none⟩ = some (sv (keyR r))) := Lib.hid (fun W0 hk =>
          ⟨(BB2.out.keep hk (by simp)).cell 1, (BB2.out.keep hk (by simp)).cell 3, (hk.cell (p := ⟨g2, _, none⟩) (cell_lt y1) (by simp)).trans y1⟩)
        have j0 : (0 : Int) ≤ (q : Int) := by omega
        have j1 : (q : Int) < (x.rd.length : Int) := by omega
        cases r with
        | cell k v =>
          have hkP := hkc k v rfl
          have HKP := Lib.hid hkP
          have y0' : wr.cell? ⟨g2, q * 4, none⟩ = some (.int .i64 0) := y0
          clear hv2 hsn hkc hkp hS hr y0 hkP
          go_upto_region 11 with fail
          refine cm11_any wr d b g2 x.rd.length p2 q x.par k (fun w' => RTurn W w' d F G (askP S x.par k)) _ HSS.out (fun W0 hk => ?_) j0 j1 _ _ _ _ _ _ _ _ _ _ _ _ _ _ _ _ _ _ _ _ _ _ _ _ _ _ _ _ _ _ _ _ _ _ _ _ _ _ _ _ _ _ _ _ _ _ _ _ _ _ _ _ _ _ _ _ _ _ _ _ _ _ _ _ _ _ _ _ _ _ _ _ _ _ _ _ _ _ _ _ _ _ _ _ _ _ _ _ _ _ _ _ _ _ _ _ _ _ _ _ _ _ _ _ _ _ _ ?_
          · refine (rAsk_any (HRF2.out.keep0 hk) HW.out.wf hP (by rw [HW.out.len]; exact hnl) x.par k).mono ?_
            rintro e w' ⟨rfl, ht⟩
            exact ⟨rfl, RTurn.comp HQ.out (ht.after hk)⟩
          intro v39 v40 v41 v42 v43 v44 v45 v46 v47 v48 W5 hq5
          have HT5 := Lib.hid hq5
          have HW5 : Hid (Way P n zs (askP S x.par k)) := Lib.hid ⟨HW.out.wf.ask _ HKP.out, by rw [len_ask]; exact HW.out.len, by rw [lgSize_ask]; exact HW.out.lg⟩
          rw [show askP S x.par k = reAsk C x.par (x.rd.take (q + 1)) from HSN.out.symm] at HT5 HW5
          clear hq5 f3 y1 y0'
          go_wp2_with fail
          exact ⟨⟨q + 1, by omega, rfl, HT5.out, HW5.out⟩, by simp only [intOf]; omega⟩
        | keys k v =>
          have hkP := hkp k v rfl
          have HKP := Lib.hid hkP
          have y0' : wr.cell? ⟨g2, q * 4, none⟩ = some (.int .i64 1) := y0
          clear hv2 hsn hkc hkp hS hr y0 hkP
          go_upto_region 12 with fail
          refine cm12_any wr d b g2 x.rd.length p2 q x.par k (fun w' => RTurn W w' d F G (askKP S x.par k)) _ HSS.out (fun W0 hk => ?_) j0 j1 _ _ _ _ _ _ _ _ _ _ _ _ _ _ _ _ _ _ _ _ _ _ _ _ _ _ _ _ _ _ _ _ _ _ _ _ _ _ _ _ _ _ _ _ _ _ _ _ _ _ _ _ _ _ _ _ _ _ _ _ _ _ _ _ _ _ _ _ _ _ _ _ _ _ _ _ _ _ _ _ _ _ _ _ _ _ _ _ _ _ _ _ _ _ _ _ _ _ _ _ _ _ _ _ _ _ _ ?_
          · refine (rAskKeys_any (HRF2.out.keep0 hk) HW.out.wf hP (by rw [HW.out.len]; exact hnl) x.par k).mono ?_
            rintro e w' ⟨rfl, ht⟩
            exact ⟨rfl, RTurn.comp HQ.out (ht.after hk)⟩
          intro v49 v50 v51 v52 v53 v54 v55 v56 v57 v58 W5 hq5
          have HT5 := Lib.hid hq5
          have HW5 : Hid (Way P n zs (askKP S x.par k)) := Lib.hid ⟨HW.out.wf.askK _ HKP.out, by rw [len_askK]; exact HW.out.len, by rw [lgSize_askK]; exact HW.out.lg⟩
          rw [show askKP S x.par k = reAsk C x.par (x.rd.take (q + 1)) from HSN.out.symm] at HT5 HW5
          clear hq5 f3 y1 y0'
          go_wp2_with fail
          exact ⟨⟨q + 1, by omega, rfl, HT5.out, HW5.out⟩, by simp only [intOf]; omega⟩
      · obtain rfl : q = x.rd.length := by omega
        have j1 : ¬ ((x.rd.length : Int) < (x.rd.length : Int)) := by omega
        rw [List.take_length] at HT HW
        obtain ⟨C1, hC1⟩ : ∃ C1, reAsk C x.par x.rd = C1 := ⟨_, rfl⟩
        have HC1 := Lib.hid hC1
        rw [hC1] at HT HW
        clear hC1 HRF2 HQ BB2 OV2 hlt
        go_wp2_with fail
        clear f3 j1
        go_loopw [8] (fun iv wr => ∃ q : Nat, q ≤ x.wr.length ∧ iv = .int .i64 q ∧ RTurn W wr d F G (putAll C1 x.par (x.wr.take q)) ∧ Way P n zs (putAll C1 x.par (x.wr.take q))) (fun iv _ => x.wr.length - (intOf iv).toNat)
        case atStart => exact ⟨0, by omega, rfl, HT.out, HW.out⟩
        case round =>
          obtain ⟨q, hq, rfl, hT, hw0⟩ := hrel
          clear HT HW
          have HT := Lib.hid hT
          have HW := Lib.hid hw0
          clear hT hw0
          obtain ⟨F2, G2, hrf2, q1, q2, q3⟩ := HT.out
          have HRF2 := Lib.hid hrf2
          have HQ : Hid ((∀ g ∈ F2, g ∈ F ∨ W.heap.size ≤ g) ∧ (∀ g ∈ G2, g ∈ G ∨ W.heap.size ≤ g) ∧ Keeps F W wr) := Lib.hid ⟨q1, q2, q3⟩
          have BB2 := Lib.hid (BB.out.keep q3 (fun h => HBF.out h))
          have OV2 := Lib.hid (OV.out.keep q3 HGF.out)
          clear hrf2 q1 q2 q3
          have f3 : wr.cell? ⟨b, 2, none⟩ = some (.slice A1 x.wr.length p1) := BB2.out.cell 2
          by_cases hlt : q < x.wr.length
          · obtain ⟨g2, rfl, y0, y1⟩ := pair_cells OV2.out.wr hlt hlt
            have hsn := putAll_snoc C1 x.par x.wr q hlt
            have hkc := HOK.out.wp _ (List.getElem_mem hlt)
            obtain ⟨S, hS⟩ : ∃ S, putAll C1 x.par (x.wr.take q) = S := ⟨_, rfl⟩
            rw [hS] at HRF2 HW hsn
            obtain ⟨r, hr⟩ : ∃ r, x.wr[q] = r := ⟨_, rfl⟩
            rw [hr] at y0 y1 hsn hkc
            obtain ⟨k, v⟩ := r
            dsimp only at y0 y1 hsn hkc
            have HSN := Lib.hid hsn
            have HKP := Lib.hid hkc
            have HSS : Hid (∀ W0, Keeps [] wr W0 → W0.cell? ⟨b, 1, none⟩ = some (.int .i64 x.par) ∧ W0.cell? ⟨b, 2, none⟩ = some (.slice (some ⟨g2, 0, none⟩) x.wr.length p1) ∧ W0.cell? ⟨g2, q * 2, none⟩ = some (sv k) ∧ W0.cell? ⟨g2, q * 2 + 1, none⟩ = some (sv v)) := Lib.hid (fun W0 hk =>
              ⟨(BB2.out.keep hk (by simp)).cell 1, (BB2.out.keep hk (by simp)).cell 2, (hk.cell (p := ⟨g2, _, none⟩) (cell_lt y0) (by simp)).trans y0, (hk.cell (p := ⟨g2, _, none⟩) (cell_lt y1) (by simp)).trans y1⟩)
            have j0 : (0 : Int) ≤ (q : Int) := by omega
            have j1 : (q : Int) < (x.wr.length : Int) := by omega
            clear hsn hkc hS hr y0 y1
            go_upto_region 16 with fail
            refine cm16_any wr d b g2 x.wr.length p1 q x.par k v (fun w' => RTurn W w' d F G (putP S x.par k v)) _ HSS.out (fun W0 hk => ?_) j0 j1 _ _ _ _ _ _ _ _ _ _ _ _ _ _ _ _ _ _ _ _ _ _ _ _ _ _ _ _ _ _ _ _ _ _ _ _ _ _ _ _ _ _ _ _ _ _ _ _ _ _ _ _ _ _ _ _ _ _ _ _ _ _ _ _ _ _ _ _ _ _ _ _ _ _ _ _ _ _ _ _ _ _ _ _ _ _ _ _ _ _ _ _ _ _ _ _ _ _ _ _ _ _ _ _ _ _ _ ?_
            · refine (rPut_any (HRF2.out.keep0 hk) HW.out.wf hP (by rw [HW.out.len]; exact hnl) x.par k v).mono ?_
              rintro e w' ⟨rfl, ht⟩
              exact ⟨rfl, RTurn.comp HQ.out (ht.after hk)⟩
            intro v66 v67 v68 v69 v70 v71 v72 v73 v74 v75 v76 v77 v78 v79 v80 v81 W5 hq5
            have HT5 := Lib.hid hq5
            have HW5 : Hid (Way P n zs (putP S x.par k v)) := Lib.hid ⟨HW.out.wf.put _ _ HKP.out, by rw [len_put]; exact HW.out.len, by rw [lgSize_put]; exact HW.out.lg⟩
            rw [show putP S x.par k v = putAll C1 x.par (x.wr.take (q + 1)) from HSN.out.symm] at HT5 HW5
            clear hq5 f3
            go_wp2_with fail
            exact ⟨⟨q + 1, by omega, rfl, HT5.out, HW5.out⟩, by simp only [intOf]; omega⟩
          · obtain rfl : q = x.wr.length := by omega
            have j1 : ¬ ((x.wr.length : Int) < (x.wr.length : Int)) := by omega
            rw [List.take_length] at HT HW
            obtain ⟨C2, hC2⟩ : ∃ C2, putAll C1 x.par x.wr = C2 := ⟨_, rfl⟩
            have HC2 := Lib.hid hC2
            rw [hC2] at HT HW
            clear hC2 HRF2 HQ BB2 OV2 hlt
            go_wp2_with fail
            clear f3 j1
            go_loopw [9] (fun iv wr => ∃ q : Nat, q ≤ x.lg.length ∧ iv = .int .i64 q ∧ RTurn W wr d F G (logAll C2 x.par (x.lg.take q)) ∧ Way P n (zs + lgLen (x.lg.take q)) (logAll C2 x.par (x.lg.take q))) (fun iv _ => x.lg.length - (intOf iv).toNat)
            case atStart => exact ⟨0, by omega, rfl, HT.out, HW.out.wf, HW.out.len, Nat.le_trans HW.out.lg (Nat.le_add_right _ _)⟩
            case round =>
              obtain ⟨q, hq, rfl, hT, hw0⟩ := hrel
              clear HT HW
              have HT := Lib.hid hT
              have HW := Lib.hid hw0
              clear hT hw0
              obtain ⟨F2, G2, hrf2, q1, q2, q3⟩ := HT.out
              have HRF2 := Lib.hid hrf2
              have HQ : Hid ((∀ g ∈ F2, g ∈ F ∨ W.heap.size ≤ g) ∧ (∀ g ∈ G2, g ∈ G ∨ W.heap.size ≤ g) ∧ Keeps F W wr) := Lib.hid ⟨q1, q2, q3⟩
              have BB2 := Lib.hid (BB.out.keep q3 (fun h => HBF.out h))
              have OV2 := Lib.hid (OV.out.keep q3 HGF.out)
              clear hrf2 q1 q2 q3
              have f3 : wr.cell? ⟨b, 4, none⟩ = some (.slice A3 x.lg.length p3) := BB2.out.cell 4
              by_cases hlt : q < x.lg.length
              · obtain ⟨g2, rfl, y0, y1⟩ := pair_cells OV2.out.lg hlt hlt
                have hsn := logAll_snoc C2 x.par x.lg q hlt
                have hkc := HOK.out.lp _ (List.getElem_mem hlt)
                have hne := HOK.out.l1 _ (List.getElem_mem hlt)
                have hle := lgLen_take x.lg q
                have hle1 := lgLen_take x.lg (q + 1)
                have hls := lgLen_snoc x.lg hlt
                obtain ⟨S, hS⟩ : ∃ S, logAll C2 x.par (x.lg.take q) = S := ⟨_, rfl⟩
                rw [hS] at HRF2 HW hsn
                obtain ⟨r, hr⟩ : ∃ r, x.lg[q] = r := ⟨_, rfl⟩
                rw [hr] at y0 y1 hsn hkc hne hls
                obtain ⟨k, v⟩ := r
                dsimp only at y0 y1 hsn hkc hne hls
                have HSN := Lib.hid hsn
                have HKP := Lib.hid hkc
                have HNE := Lib.hid hne
                have HLS := Lib.hid hls
                have hz1 : lgSize S ≤ 400000000 := by have := HW.out.lg; have := HLG.out; have := HXL.out; omega
                have hz2 : v.length ≤ 400000000 := by have := HLG.out; have := HXL.out; omega
                have HSS : Hid (∀ W0, Keeps [] wr W0 → W0.cell? ⟨b, 1, none⟩ = some (.int .i64 x.par) ∧ W0.cell? ⟨b, 4, none⟩ = some (.slice (some ⟨g2, 0, none⟩) x.lg.length p3) ∧ W0.cell? ⟨g2, q * 2, none⟩ = some (sv k) ∧ W0.cell? ⟨g2, q * 2 + 1, none⟩ = some (sv v)) := Lib.hid (fun W0 hk =>
                  ⟨(BB2.out.keep hk (by simp)).cell 1, (BB2.out.keep hk (by simp)).cell 4, (hk.cell (p := ⟨g2, _, none⟩) (cell_lt y0) (by simp)).trans y0, (hk.cell (p := ⟨g2, _, none⟩) (cell_lt y1) (by simp)).trans y1⟩)
                have j0 : (0 : Int) ≤ (q : Int) := by omega
                have j1 : (q : Int) < (x.lg.length : Int) := by omega
                have HZ1 := Lib.hid hz1
                have HZ2 := Lib.hid hz2
                clear hsn hkc hS hr y0 y1 hne hls hle hle1 hz1 hz2
                go_upto_region 20 with fail
                refine cm20_any wr d b g2 x.lg.length p3 q x.par k v (fun w' => RTurn W w' d F G (logP S x.par k v)) _ HSS.out (fun W0 hk => ?_) j0 j1 _ _ _ _ _ _ _ _ _ _ _ _ _ _ _ _ _ _ _ _ _ _ _ _ _ _ _ _ _ _ _ _ _ _ _ _ _ _ _ _ _ _ _ _ _ _ _ _ _ _ _ _ _ _ _ _ _ _ _ _ _ _ _ _ _ _ _ _ _ _ _ _ _ _ _ _ _ _ _ _ _ _ _ _ _ _ _ _ _ _ _ _ _ _ _ _ _ _ _ _ _ _ _ _ _ _ _ ?_
                · have h1 := rLog_any (HRF2.out.keep0 hk) HW.out.wf hP (by rw [HW.out.len]; exact hnl) HZ1.out x.par k v HZ2.out
                  rw [if_neg HNE.out] at h1
                  refine h1.mono ?_
                  rintro e w' ⟨rfl, ht⟩
                  exact ⟨rfl, RTurn.comp HQ.out (ht.after hk)⟩
                intro v89 v90 v91 v92 v93 v94 v95 v96 v97 v98 v99 v100 v101 v102 v103 v104 W5 hq5
                have HT5 := Lib.hid hq5
                have HW5 : Hid (Way P n (zs + lgLen (x.lg.take (q + 1))) (logP S x.par k v)) := Lib.hid ⟨HW.out.wf.log _ HKP.out HNE.out, by rw [len_log]; exact HW.out.len, by
                  have h1 := lgSize_log HW.out.wf x.par k v
                  have h2 := HW.out.lg
                  have h3 := HLS.out
                  omega⟩
                rw [show logP S x.par k v = logAll C2 x.par (x.lg.take (q + 1)) from HSN.out.symm] at HT5 HW5
                clear hq5 f3
                go_wp2_with fail
                exact ⟨⟨q + 1, by omega, rfl, HT5.out, HW5.out⟩, by simp only [intOf]; omega⟩
              · obtain rfl : q = x.lg.length := by omega
                have j1 : ¬ ((x.lg.length : Int) < (x.lg.length : Int)) := by omega
                rw [List.take_length] at HT HW
                have hg3 : logAll C2 x.par x.lg = give C x := by rw [← HC2.out, ← HC1.out]; rfl
                rw [hg3] at HT HW
                clear hg3 HRF2 HQ BB2 OV2 hlt
                obtain ⟨F2, G2, hrf2, q1, q2, q3⟩ := HT.out
                have hhg : has (give C x) x.id = true := by rw [(grow_give C x).1, ← find_has, HFX.out]; rfl
                have hlg3 : (give C x).length ≤ 1000000 := by rw [HW.out.len]; exact hnl
                obtain ⟨k3, hk3, hid3, hpl3, -⟩ := HW.out.wf.tree.row0.find hhg
                have CP3 := Lib.hid (place_any hrf2 hlg3 x.id)
                rw [hpl3] at CP3
                obtain ⟨x3, hx3⟩ : ∃ x3, (give C x).reverse[k3] = x3 := ⟨_, rfl⟩
                have CR3 := Lib.hid (rRemove_any hrf2 HW.out.wf.tree.row0 hlg3 hk3 hx3)
                have hx3i : x3.id = x.id := by rw [← hx3]; exact hid3
                rw [hx3i] at CR3
                have HEND : Hid (∀ w', RTurnD wr w' d F2 G2 (dropP (give C x) x.id) → RTurn w1 w' d F G (dropP (give C x) x.id)) := Lib.hid (fun w' ht => (RTurn.comp ⟨q1, q2, q3⟩ (ht.turn hrf2.dF)).after KB.out)
                clear hrf2 q1 q2 q3 hhg hlg3 hk3 hid3 hpl3 hx3 hx3i HT HW
                go_wp2_with fail
                refine CP3.out.mono ?_
                rintro e w5 ⟨rfl, rfl⟩
                go_wp2_with fail
                refine CR3.out.mono ?_
                rintro e w6 ⟨rfl, ht⟩
                have HT6 := Lib.hid (HEND.out _ ht)
                clear ht
                go_wp2_with fail
                go_ret
                exact ⟨rfl, HT6.out⟩
end Go.Proofs.YtbllmpcpfmlemaaGreat
