/- The texts W51, W52 in one. -/
import Derived.Test.YtcopjjokhjealaaMG
namespace Go.Proofs.Ytcopjjokhjealaa
open Go.RowKit

noncomputable def bnd18C : Code := ((Try.f22.body.bind (theRegion 18)).getD .skip)
set_option maxRecDepth 1000000 in
set_option maxHeartbeats 1600000 in
set_option linter.unusedSimpArgs false in
theorem bnd18_any (w : World) (p bl off b2 o2 nv cv ni ci i j : Nat) (x y : Int) (b : Bool) (K : Exit → Act → World → Prop)
    (hS : ∀ W, Keeps [] w W → W.cell? ⟨bl, off + i * 4, none⟩ = some (.int .i64 x) ∧ W.cell? ⟨bl, off + i * 4 + 3, none⟩ = some (.slice (some ⟨b2, o2, none⟩) ni ci) ∧ W.cell? ⟨b2, o2 + j, none⟩ = some (.int .i64 y)) (i1 : (i : Int) < nv) (j1 : (j : Int) < ni)
    (hC : ∀ W, Keeps [] w W → Calls Try.prog 12 #[.pointer (some ⟨p, 0, none⟩), .int .i64 x, .int .i64 y] W fun e w' => e = .returned (.bool b) ∧ Keeps [] W w')
    (u1 u2 u4 u6 u7 u8 u10 u11 u12 u13 u14 u15 u16 u17 u18 u19 u20 u21 u22 u23 u24 u25 u26 u27 u28 u29 u30 u31 u32 u33 u34 u35 u36 u37 u38 u39 u40 u41 u42 u43 u44 u45 u46 u47 u48 u49 u50 u51 u52 u53 u54 u55 u56 u57 u58 u59 u60 u61 u62 u63 u64 u65 u66 u67 u68 u69 u70 u71 u72 u73 u74 u75 u76 u77 u78 u79 u80 u81 u82 u83 u84 u85 u86 u87 u88 u89 u90 u91 u92 u93 u94 u95 u96 u97 u98 u99 u100 u101 u102 u103 u104 u105 u106 u107 u108 u109 u110 u111 u112 u113 u114 u115 u116 u117 u118 u119 u120 : Value)
    (hK : ∀ (v67 v68 v69 v70 v71 v72 v73 v74 v75 v76 v77 v78 v79 v80 v81 : Value) (W : World), Keeps [] w W → K .normal ⟨#[.pointer (some ⟨p, 0, none⟩), u1, u2, .slice (some ⟨bl, off, none⟩) nv cv, u4, .int .i64 (i : Nat), u6, u7, u8, .int .i64 (j : Nat), u10, u11, u12, u13, u14, u15, u16, u17, u18, u19, u20, u21, u22, u23, u24, u25, u26, u27, u28, u29, u30, u31, u32, u33, u34, u35, u36, u37, u38, u39, u40, u41, u42, u43, u44, u45, u46, u47, u48, u49, u50, u51, u52, u53, u54, u55, u56, u57, u58, u59, u60, u61, u62, u63, u64, u65, u66, v67, v68, v69, v70, v71, v72, v73, v74, v75, v76, v77, v78, v79, v80, v81, .bool (!b), u83, u84, u85, u86, u87, u88, u89, u90, u91, u92, u93, u94, u95, u96, u97, u98, u99, u100, u101, u102, u103, u104, u105, u106, u107, u108, u109, u110, u111, u112, u113, u114, u115, u116, u117, u118, u119, u120], []⟩ W) :
    Code.wp Try.prog bnd18C K ⟨#[.pointer (some ⟨p, 0, none⟩), u1, u2, .slice (some ⟨bl, off, none⟩) nv cv, u4, .int .i64 (i : Nat), u6, u7, u8, .int .i64 (j : Nat), u10, u11, u12, u13, u14, u15, u16, u17, u18, u19, u20, u21, u22, u23, u24, u25, u26, u27, u28, u29, u30, u31, u32, u33, u34, u35, u36, u37, u38, u39, u40, u41, u42, u43, u44, u45, u46, u47, u48, u49, u50, u51, u52, u53, u54, u55, u56, u57, u58, u59, u60, u61, u62, u63, u64, u65, u66, u67, u68, u69, u70, u71, u72, u73, u74, u75, u76, u77, u78, u79, u80, u81, u82, u83, u84, u85, u86, u87, u88, u89, u90, u91, u92, u93, u94, u95, u96, u97, u98, u99, u100, u101, u102, u103, u104, u105, u106, u107, u108, u109, u110, u111, u112, u113, u114, u115, u116, u117, u118, u119, u120], []⟩ w := by
  have HS := Lib.hid hS
  have HC := Lib.hid hC
  have i0 : (0 : Int) ≤ (i : Int) := by omega
  have j0 : (0 : Int) ≤ (j : Int) := by omega
  clear hS hC
  conv => arg 2; whnf
  try dsimp only at hK ⊢
  refine wp_region_noPanic ?_
  refine wp_region_held_drew (S := fun W => W.cell? ⟨bl, off + i * 4, none⟩ = some (.int .i64 x) ∧ W.cell? ⟨bl, off + i * 4 + 3, none⟩ = some (.slice (some ⟨b2, o2, none⟩) ni ci) ∧ W.cell? ⟨b2, o2 + j, none⟩ = some (.int .i64 y)) (by kernel_rfl) (HS.out _ ((Keeps.refl [] w).drew)) (fun hHeld => ?_)
  obtain ⟨w0, hw0⟩ : ∃ w0, w.drew = w0 := ⟨_, rfl⟩
  try rw [hw0] at hHeld
  rw [hw0]
  have K0 : Keeps [] w w0 := by rw [← hw0]; exact (Keeps.refl [] w).drew
  clear hw0
  refine wpAnyH_take (i := 0) (oi := ⟨some 67, Op.move (Operand.tmp 0), 26, _, _, none⟩) (v := ?vq1) rfl (by kernel_rfl) (by kernel_rfl) (by kernel_rfl) (fun _ _ _ h => h) (Or.inl ⟨by rfl, fun W hW => ?_⟩) (by assumption) ?_
  rotate_left
  · go_simp
    with_reducible rfl
  try simp only [Act.put, List.setIfInBounds_toArray, List.set_cons_zero, List.set_cons_succ]
  refine wpAnyH_take (i := 1) (oi := ⟨some 68, Op.move (Operand.tmp 3), 85, _, _, none⟩) (v := ?vq2) rfl (by kernel_rfl) (by kernel_rfl) (by kernel_rfl) (fun _ _ _ h => h) (Or.inl ⟨by rfl, fun W hW => ?_⟩) (by assumption) ?_
  rotate_left
  · go_simp
    with_reducible rfl
  try simp only [Act.put, List.setIfInBounds_toArray, List.set_cons_zero, List.set_cons_succ]
  refine wpAnyH_take (i := 2) (oi := ⟨some 69, Op.move (Operand.tmp 5), 3, _, _, none⟩) (v := ?vq3) rfl (by kernel_rfl) (by kernel_rfl) (by kernel_rfl) (fun _ _ _ h => h) (Or.inl ⟨by rfl, fun W hW => ?_⟩) (by assumption) ?_
  rotate_left
  · go_simp
    with_reducible rfl
  try simp only [Act.put, List.setIfInBounds_toArray, List.set_cons_zero, List.set_cons_succ]
  refine wpAnyH_take (i := 3) (oi := ⟨some 70, Op.indexAddr 85 (Operand.tmp 68) (Operand.tmp 69), 0, _, _, none⟩) (v := ?vq4) rfl (by kernel_rfl) (by kernel_rfl) (by kernel_rfl) (fun _ _ _ h => h) (Or.inl ⟨by rfl, fun W hW => ?_⟩) (by assumption) ?_
  rotate_left
  · go_simp
    with_reducible rfl
  try simp only [Act.put, List.setIfInBounds_toArray, List.set_cons_zero, List.set_cons_succ]
  refine wpAnyH_take (i := 4) (oi := ⟨some 71, Op.fieldAddr 66 (Operand.tmp 70) 0, 0, _, _, none⟩) (v := ?vq5) rfl (by kernel_rfl) (by kernel_rfl) (by kernel_rfl) (fun _ _ _ h => h) (Or.inl ⟨by rfl, fun W hW => ?_⟩) (by assumption) ?_
  rotate_left
  · go_simp
    with_reducible rfl
  try simp only [Act.put, List.setIfInBounds_toArray, List.set_cons_zero, List.set_cons_succ]
  refine wpAnyH_take (i := 5) (oi := ⟨some 72, Op.load 3 (Operand.tmp 71), 3, _, _, none⟩) (v := .int .i64 x) rfl (by kernel_rfl) (by kernel_rfl) (by kernel_rfl) (fun _ _ _ h => h) (Or.inl ⟨by rfl, fun W hW => ?_⟩) (by assumption) ?_
  · (have a0 := hW.1; clear hW; go_simp)
  try simp only [Act.put, List.setIfInBounds_toArray, List.set_cons_zero, List.set_cons_succ]
  refine wpAnyH_take (i := 6) (oi := ⟨some 73, Op.move (Operand.tmp 3), 85, _, _, none⟩) (v := ?vq6) rfl (by kernel_rfl) (by kernel_rfl) (by kernel_rfl) (fun _ _ _ h => h) (Or.inl ⟨by rfl, fun W hW => ?_⟩) (by assumption) ?_
  rotate_left
  · go_simp
    with_reducible rfl
  try simp only [Act.put, List.setIfInBounds_toArray, List.set_cons_zero, List.set_cons_succ]
  refine wpAnyH_take (i := 7) (oi := ⟨some 74, Op.move (Operand.tmp 5), 3, _, _, none⟩) (v := ?vq7) rfl (by kernel_rfl) (by kernel_rfl) (by kernel_rfl) (fun _ _ _ h => h) (Or.inl ⟨by rfl, fun W hW => ?_⟩) (by assumption) ?_
  rotate_left
  · go_simp
    with_reducible rfl
  try simp only [Act.put, List.setIfInBounds_toArray, List.set_cons_zero, List.set_cons_succ]
  refine wpAnyH_take (i := 8) (oi := ⟨some 75, Op.indexAddr 85 (Operand.tmp 73) (Operand.tmp 74), 0, _, _, none⟩) (v := ?vq8) rfl (by kernel_rfl) (by kernel_rfl) (by kernel_rfl) (fun _ _ _ h => h) (Or.inl ⟨by rfl, fun W hW => ?_⟩) (by assumption) ?_
  rotate_left
  · go_simp
    with_reducible rfl
  try simp only [Act.put, List.setIfInBounds_toArray, List.set_cons_zero, List.set_cons_succ]
  refine wpAnyH_take (i := 9) (oi := ⟨some 76, Op.fieldAddr 66 (Operand.tmp 75) 3, 0, _, _, none⟩) (v := ?vq9) rfl (by kernel_rfl) (by kernel_rfl) (by kernel_rfl) (fun _ _ _ h => h) (Or.inl ⟨by rfl, fun W hW => ?_⟩) (by assumption) ?_
  rotate_left
  · go_simp
    with_reducible rfl
  try simp only [Act.put, List.setIfInBounds_toArray, List.set_cons_zero, List.set_cons_succ]
  refine wpAnyH_take (i := 10) (oi := ⟨some 77, Op.load 22 (Operand.tmp 76), 22, _, _, none⟩) (v := .slice (some ⟨b2, o2, none⟩) ni ci) rfl (by kernel_rfl) (by kernel_rfl) (by kernel_rfl) (fun _ _ _ h => h) (Or.inl ⟨by rfl, fun W hW => ?_⟩) (by assumption) ?_
  · (have a0 := hW.2.1; clear hW; go_simp)
  try simp only [Act.put, List.setIfInBounds_toArray, List.set_cons_zero, List.set_cons_succ]
  refine wpAnyH_take (i := 11) (oi := ⟨some 78, Op.move (Operand.tmp 9), 3, _, _, none⟩) (v := ?vq10) rfl (by kernel_rfl) (by kernel_rfl) (by kernel_rfl) (fun _ _ _ h => h) (Or.inl ⟨by rfl, fun W hW => ?_⟩) (by assumption) ?_
  rotate_left
  · go_simp
    with_reducible rfl
  try simp only [Act.put, List.setIfInBounds_toArray, List.set_cons_zero, List.set_cons_succ]
  refine wpAnyH_take (i := 12) (oi := ⟨some 79, Op.indexAddr 22 (Operand.tmp 77) (Operand.tmp 78), 0, _, _, none⟩) (v := ?vq11) rfl (by kernel_rfl) (by kernel_rfl) (by kernel_rfl) (fun _ _ _ h => h) (Or.inl ⟨by rfl, fun W hW => ?_⟩) (by assumption) ?_
  rotate_left
  · go_simp
    with_reducible rfl
  try simp only [Act.put, List.setIfInBounds_toArray, List.set_cons_zero, List.set_cons_succ]
  refine wpAnyH_take (i := 13) (oi := ⟨some 80, Op.load 3 (Operand.tmp 79), 3, _, _, none⟩) (v := .int .i64 y) rfl (by kernel_rfl) (by kernel_rfl) (by kernel_rfl) (fun _ _ _ h => h) (Or.inl ⟨by rfl, fun W hW => ?_⟩) (by assumption) ?_
  · (have a0 := hW.2.2; clear hW; go_simp)
  try simp only [Act.put, List.setIfInBounds_toArray, List.set_cons_zero, List.set_cons_succ]
  refine wpAnyH_ready (rs := [14]) (by kernel_rfl) (by simp) ?_
  refine AllReadyH.cons (o := ⟨some 81, Op.call { callee := Callee.value (Operand.func 12), args := #[Operand.tmp 67, Operand.tmp 72, Operand.tmp 80], argTypes := #[26, 3, 3] }, 4, _, _, none⟩) rfl (fun KK hKK => ?_) AllReadyH.nil
  refine step_callW (by rfl) 12 _ _ rfl #[.pointer (some ⟨p, 0, none⟩), .int .i64 x, .int .i64 y] (by first | (simp [Act.eval]; done) | (simp [Act.eval, Act.put]; done)) (enters_of Try.func12 (by kernel_rfl) rfl) (HC.out _ K0) ?_
  rintro e W12 ⟨rfl, k13⟩
  refine ⟨_, rfl, ?_⟩
  have K14 : Keeps [] w W12 := K0.trans k13 (by simp)
  refine hKK.out _ _ (HS.out _ K14) (fun hHeld => ?_)
  clear hKK KK
  try simp only [Act.put, List.setIfInBounds_toArray, List.set_cons_zero, List.set_cons_succ]
  refine wpAnyH_take (i := 15) (oi := ⟨some 82, Op.unOp UnOp.not 4 (Operand.tmp 81), 4, _, _, none⟩) (v := .bool (!b)) rfl (by kernel_rfl) (by kernel_rfl) (by kernel_rfl) (fun _ _ _ h => h) (Or.inl ⟨by rfl, fun W hW => ?_⟩) (by assumption) ?_
  · go_simp
  try simp only [Act.put, List.setIfInBounds_toArray, List.set_cons_zero, List.set_cons_succ]
  refine wpAnyH_done (by kernel_rfl) ?_ _
  refine NoPanic.normal ?_
  exact hK _ _ _ _ _ _ _ _ _ _ _ _ _ _ _ _ K14
noncomputable def bnd12C : Code := ((Try.f22.body.bind (theRegion 12)).getD .skip)
set_option maxRecDepth 1000000 in
set_option maxHeartbeats 1600000 in
set_option linter.unusedSimpArgs false in
theorem bnd12_any (w : World) (p bl off b3 o3 nv cv nl cl ni ci i j : Nat) (A : Option Addr) (y : Int) (b : Bool) (K : Exit → Act → World → Prop)
    (hS : ∀ W, Keeps [] w W → W.cell? ⟨bl, off + i * 4 + 3, none⟩ = some (.slice A ni ci) ∧ W.cell? ⟨b3, o3 + j * 4 + 1, none⟩ = some (.int .i64 y)) (i1 : (i : Int) < nv) (j1 : (j : Int) < nl)
    (hC : ∀ W, Keeps [] w W → Calls Try.prog 20 #[.slice A ni ci, .int .i64 y] W fun e w' => e = .returned (.bool b) ∧ Keeps [] W w')
    (u1 u2 u6 u8 u9 u10 u11 u12 u13 u14 u15 u16 u17 u18 u19 u20 u21 u22 u23 u24 u25 u26 u27 u28 u29 u30 u31 u32 u33 u34 u35 u36 u37 u38 u39 u40 u41 u42 u43 u44 u45 u46 u47 u48 u49 u50 u51 u52 u53 u54 u55 u56 u57 u58 u59 u60 u61 u62 u63 u64 u65 u66 u67 u68 u69 u70 u71 u72 u73 u74 u75 u76 u77 u78 u79 u80 u81 u82 u83 u84 u85 u86 u87 u88 u89 u90 u91 u92 u93 u94 u95 u96 u97 u98 u99 u100 u101 u102 u103 u104 u105 u106 u107 u108 u109 u110 u111 u112 u113 u114 u115 u116 u117 u118 u119 u120 : Value)
    (hK : ∀ (v41 v42 v43 v44 v45 v46 v47 v48 v49 v50 v51 : Value) (W : World), Keeps [] w W → K .normal ⟨#[.pointer (some ⟨p, 0, none⟩), u1, u2, .slice (some ⟨bl, off, none⟩) nv cv, .slice (some ⟨b3, o3, none⟩) nl cl, .int .i64 (i : Nat), u6, .int .i64 (j : Nat), u8, u9, u10, u11, u12, u13, u14, u15, u16, u17, u18, u19, u20, u21, u22, u23, u24, u25, u26, u27, u28, u29, u30, u31, u32, u33, u34, u35, u36, u37, u38, u39, u40, v41, v42, v43, v44, v45, v46, v47, v48, v49, v50, v51, .bool (!b), u53, u54, u55, u56, u57, u58, u59, u60, u61, u62, u63, u64, u65, u66, u67, u68, u69, u70, u71, u72, u73, u74, u75, u76, u77, u78, u79, u80, u81, u82, u83, u84, u85, u86, u87, u88, u89, u90, u91, u92, u93, u94, u95, u96, u97, u98, u99, u100, u101, u102, u103, u104, u105, u106, u107, u108, u109, u110, u111, u112, u113, u114, u115, u116, u117, u118, u119, u120], []⟩ W) :
    Code.wp Try.prog bnd12C K ⟨#[.pointer (some ⟨p, 0, none⟩), u1, u2, .slice (some ⟨bl, off, none⟩) nv cv, .slice (some ⟨b3, o3, none⟩) nl cl, .int .i64 (i : Nat), u6, .int .i64 (j : Nat), u8, u9, u10, u11, u12, u13, u14, u15, u16, u17, u18, u19, u20, u21, u22, u23, u24, u25, u26, u27, u28, u29, u30, u31, u32, u33, u34, u35, u36, u37, u38, u39, u40, u41, u42, u43, u44, u45, u46, u47, u48, u49, u50, u51, u52, u53, u54, u55, u56, u57, u58, u59, u60, u61, u62, u63, u64, u65, u66, u67, u68, u69, u70, u71, u72, u73, u74, u75, u76, u77, u78, u79, u80, u81, u82, u83, u84, u85, u86, u87, u88, u89, u90, u91, u92, u93, u94, u95, u96, u97, u98, u99, u100, u101, u102, u103, u104, u105, u106, u107, u108, u109, u110, u111, u112, u113, u114, u115, u116, u117, u118, u119, u120], []⟩ w := by
  have HS := Lib.hid hS
  have HC := Lib.hid hC
  have i0 : (0 : Int) ≤ (i : Int) := by omega
  have j0 : (0 : Int) ≤ (j : Int) := by omega
  clear hS hC
  conv => arg 2; whnf
  try dsimp only at hK ⊢
  refine wp_region_noPanic ?_
  refine wp_region_held_drew (S := fun W => W.cell? ⟨bl, off + i * 4 + 3, none⟩ = some (.slice A ni ci) ∧ W.cell? ⟨b3, o3 + j * 4 + 1, none⟩ = some (.int .i64 y)) (by kernel_rfl) (HS.out _ ((Keeps.refl [] w).drew)) (fun hHeld => ?_)
  obtain ⟨w0, hw0⟩ : ∃ w0, w.drew = w0 := ⟨_, rfl⟩
  try rw [hw0] at hHeld
  rw [hw0]
  have K0 : Keeps [] w w0 := by rw [← hw0]; exact (Keeps.refl [] w).drew
  clear hw0
  refine wpAnyH_take (i := 0) (oi := ⟨some 41, Op.move (Operand.tmp 3), 85, _, _, none⟩) (v := ?vq1) rfl (by kernel_rfl) (by kernel_rfl) (by kernel_rfl) (fun _ _ _ h => h) (Or.inl ⟨by rfl, fun W hW => ?_⟩) (by assumption) ?_
  rotate_left
  · go_simp
    with_reducible rfl
  try simp only [Act.put, List.setIfInBounds_toArray, List.set_cons_zero, List.set_cons_succ]
  refine wpAnyH_take (i := 1) (oi := ⟨some 42, Op.move (Operand.tmp 5), 3, _, _, none⟩) (v := ?vq2) rfl (by kernel_rfl) (by kernel_rfl) (by kernel_rfl) (fun _ _ _ h => h) (Or.inl ⟨by rfl, fun W hW => ?_⟩) (by assumption) ?_
  rotate_left
  · go_simp
    with_reducible rfl
  try simp only [Act.put, List.setIfInBounds_toArray, List.set_cons_zero, List.set_cons_succ]
  refine wpAnyH_take (i := 2) (oi := ⟨some 43, Op.indexAddr 85 (Operand.tmp 41) (Operand.tmp 42), 0, _, _, none⟩) (v := ?vq3) rfl (by kernel_rfl) (by kernel_rfl) (by kernel_rfl) (fun _ _ _ h => h) (Or.inl ⟨by rfl, fun W hW => ?_⟩) (by assumption) ?_
  rotate_left
  · go_simp
    with_reducible rfl
  try simp only [Act.put, List.setIfInBounds_toArray, List.set_cons_zero, List.set_cons_succ]
  refine wpAnyH_take (i := 3) (oi := ⟨some 44, Op.fieldAddr 66 (Operand.tmp 43) 3, 0, _, _, none⟩) (v := ?vq4) rfl (by kernel_rfl) (by kernel_rfl) (by kernel_rfl) (fun _ _ _ h => h) (Or.inl ⟨by rfl, fun W hW => ?_⟩) (by assumption) ?_
  rotate_left
  · go_simp
    with_reducible rfl
  try simp only [Act.put, List.setIfInBounds_toArray, List.set_cons_zero, List.set_cons_succ]
  refine wpAnyH_take (i := 4) (oi := ⟨some 45, Op.load 22 (Operand.tmp 44), 22, _, _, none⟩) (v := .slice A ni ci) rfl (by kernel_rfl) (by kernel_rfl) (by kernel_rfl) (fun _ _ _ h => h) (Or.inl ⟨by rfl, fun W hW => ?_⟩) (by assumption) ?_
  · (have a0 := hW.1; clear hW; go_simp)
  try simp only [Act.put, List.setIfInBounds_toArray, List.set_cons_zero, List.set_cons_succ]
  refine wpAnyH_take (i := 5) (oi := ⟨some 46, Op.move (Operand.tmp 4), 41, _, _, none⟩) (v := ?vq5) rfl (by kernel_rfl) (by kernel_rfl) (by kernel_rfl) (fun _ _ _ h => h) (Or.inl ⟨by rfl, fun W hW => ?_⟩) (by assumption) ?_
  rotate_left
  · go_simp
    with_reducible rfl
  try simp only [Act.put, List.setIfInBounds_toArray, List.set_cons_zero, List.set_cons_succ]
  refine wpAnyH_take (i := 6) (oi := ⟨some 47, Op.move (Operand.tmp 7), 3, _, _, none⟩) (v := ?vq6) rfl (by kernel_rfl) (by kernel_rfl) (by kernel_rfl) (fun _ _ _ h => h) (Or.inl ⟨by rfl, fun W hW => ?_⟩) (by assumption) ?_
  rotate_left
  · go_simp
    with_reducible rfl
  try simp only [Act.put, List.setIfInBounds_toArray, List.set_cons_zero, List.set_cons_succ]
  refine wpAnyH_take (i := 7) (oi := ⟨some 48, Op.indexAddr 41 (Operand.tmp 46) (Operand.tmp 47), 0, _, _, none⟩) (v := ?vq7) rfl (by kernel_rfl) (by kernel_rfl) (by kernel_rfl) (fun _ _ _ h => h) (Or.inl ⟨by rfl, fun W hW => ?_⟩) (by assumption) ?_
  rotate_left
  · go_simp
    with_reducible rfl
  try simp only [Act.put, List.setIfInBounds_toArray, List.set_cons_zero, List.set_cons_succ]
  refine wpAnyH_take (i := 8) (oi := ⟨some 49, Op.fieldAddr 49 (Operand.tmp 48) 1, 0, _, _, none⟩) (v := ?vq8) rfl (by kernel_rfl) (by kernel_rfl) (by kernel_rfl) (fun _ _ _ h => h) (Or.inl ⟨by rfl, fun W hW => ?_⟩) (by assumption) ?_
  rotate_left
  · go_simp
    with_reducible rfl
  try simp only [Act.put, List.setIfInBounds_toArray, List.set_cons_zero, List.set_cons_succ]
  refine wpAnyH_take (i := 9) (oi := ⟨some 50, Op.load 3 (Operand.tmp 49), 3, _, _, none⟩) (v := .int .i64 y) rfl (by kernel_rfl) (by kernel_rfl) (by kernel_rfl) (fun _ _ _ h => h) (Or.inl ⟨by rfl, fun W hW => ?_⟩) (by assumption) ?_
  · (have a0 := hW.2; clear hW; go_simp)
  try simp only [Act.put, List.setIfInBounds_toArray, List.set_cons_zero, List.set_cons_succ]
  refine wpAnyH_ready (rs := [10]) (by kernel_rfl) (by simp) ?_
  refine AllReadyH.cons (o := ⟨some 51, Op.call { callee := Callee.value (Operand.func 20), args := #[Operand.tmp 45, Operand.tmp 50], argTypes := #[22, 3] }, 4, _, _, none⟩) rfl (fun KK hKK => ?_) AllReadyH.nil
  refine step_callW (by rfl) 20 _ _ rfl #[.slice A ni ci, .int .i64 y] (by first | (simp [Act.eval]; done) | (simp [Act.eval, Act.put]; done)) (enters_of Try.func20 (by kernel_rfl) rfl) (HC.out _ K0) ?_
  rintro e W9 ⟨rfl, k10⟩
  refine ⟨_, rfl, ?_⟩
  have K11 : Keeps [] w W9 := K0.trans k10 (by simp)
  refine hKK.out _ _ (HS.out _ K11) (fun hHeld => ?_)
  clear hKK KK
  try simp only [Act.put, List.setIfInBounds_toArray, List.set_cons_zero, List.set_cons_succ]
  refine wpAnyH_take (i := 11) (oi := ⟨some 52, Op.unOp UnOp.not 4 (Operand.tmp 51), 4, _, _, none⟩) (v := .bool (!b)) rfl (by kernel_rfl) (by kernel_rfl) (by kernel_rfl) (fun _ _ _ h => h) (Or.inl ⟨by rfl, fun W hW => ?_⟩) (by assumption) ?_
  · go_simp
  try simp only [Act.put, List.setIfInBounds_toArray, List.set_cons_zero, List.set_cons_succ]
  refine wpAnyH_done (by kernel_rfl) ?_ _
  refine NoPanic.normal ?_
  exact hK _ _ _ _ _ _ _ _ _ _ _ _ K11
end Go.Proofs.Ytcopjjokhjealaa
namespace Go.Proofs.Ytcopjjokhjealaa
open Go.RowKit

theorem quiet_left {P : Program} {f : Nat} {args : Array Value} {w : World} {v : Value} {Q : Ending → World → Prop} (h : Calls P f args w fun e w' => e = .returned v ∧ w' = w) (hQ : Q (.returned v) w) : Calls P f args w Q :=
  h.mono (by rintro e w' ⟨rfl, rfl⟩; exact hQ)
/-- The first of the items that does not run. -/
def frst (s : Pl) (l : Int) (it : List Int) : Option Int := it.find? (fun i => decide (fndI s.li l i < 0))
theorem run_neg (L : List Rn) (l i : Int) : decide (fndI L l i < 0) = !runB L l i := by
  rw [runB_fnd]
  by_cases h : fndI L l i < 0
  · rw [decide_eq_true h, decide_eq_false (by omega)]; rfl
  · rw [decide_eq_false h, decide_eq_true (by omega)]; rfl
theorem frst_skip {s : Pl} {l : Int} {it : List Int} {k : Nat} (hk : k < it.length) (h : frst s l (it.drop k) = frst s l it) (hr : runB s.li l it[k] = true) : frst s l (it.drop (k + 1)) = frst s l it := by
  rw [← h, List.drop_eq_getElem_cons hk]
  unfold frst
  rw [List.find?_cons_of_neg (by rw [run_neg, hr]; simp)]
theorem frst_at {s : Pl} {l : Int} {it : List Int} {k : Nat} (hk : k < it.length) (h : frst s l (it.drop k) = frst s l it) (hr : runB s.li l it[k] = false) : frst s l it = some it[k] := by
  rw [← h, List.drop_eq_getElem_cons hk]
  unfold frst
  rw [List.find?_cons_of_pos (by rw [run_neg, hr]; rfl)]
theorem ahead_frst {s : Pl} {l : Int} {n : Ln} (h : s.ln l = some n) : aheadV s l = if 4 ≤ manyI s.li l then none else frst s l n.it := by
  unfold aheadV frst
  rw [h]
set_option maxRecDepth 1000000 in
set_option maxHeartbeats 12800000 in
theorem bounded_any (w0 w : World) (F : List Nat) (p : Nat) (s : Pl) (Φ : Nat) (h : SV w0 w F p s Φ) (hΦ : Φ ≤ 800) :
    Calls Try.prog 22 #[.pointer (some ⟨p, 0, none⟩)] w fun e w' => e = .returned (.bool true) ∧ Keeps [] w w' := by
  have H := Lib.hid h
  have CL := Lib.hid (lines_sv h hΦ)
  have hli := h.li
  clear h
  go_enter Try.func22, Try.ntmps22
  go_wp2_with fail
  refine CL.out.mono ?_
  rintro e w1 ⟨A1, c1, vs, rfl, hv, k1⟩
  have H1 := Lib.hid (H.out.keep0 k1)
  have K1 := Lib.hid k1
  have HV := Lib.hid hv
  have CI := Lib.hid (list_sv H1.out hΦ)
  have hvm := hv.mx
  clear hv k1 CL H
  go_wp2_with fail
  refine CI.out.mono ?_
  rintro e w2 ⟨A2, c2, rfl, ha, k2⟩
  have H2 := Lib.hid (H1.out.keep0 k2)
  have K2 := Lib.hid (K1.out.trans k2 (by simp))
  have HV2 := Lib.hid (HV.out.keep k2)
  have HA2 := Lib.hid ha
  clear ha k2 CI H1 HV K1
  go_wp2_with fail
  go_loopw [5] (fun iv wr => ∃ i : Nat, i ≤ vs.length ∧ iv = .int .i64 i ∧ Keeps [] w2 wr) (fun iv _ => vs.length - (intOf iv).toNat)
  case atStart => exact ⟨0, by omega, rfl, Keeps.refl _ _⟩
  case round =>
    obtain ⟨i, hi, rfl, kr⟩ := hrel
    have KR := Lib.hid kr
    clear kr
    by_cases hlt : i < vs.length
    · obtain ⟨bl, off, hAA, hbl, hc⟩ := HV2.out.at_.at_ (by omega)
      subst hAA
      obtain ⟨c0, -, -, c3⟩ := hc i hlt
      obtain ⟨n, hn1, hn2⟩ := HV2.out.va vs[i] (List.getElem_mem hlt)
      obtain ⟨g3, g4, g5, g6, g7⟩ := hn2
      rw [g6] at c3
      have hright := rightL_ok (H2.out.v.c.it _ _ hn1)
      have hz := AtZ.of_own g7 (by omega)
      obtain ⟨Ai, hAi⟩ : ∃ Ai, (vs[i].b.map fun g => (⟨g, 0, none⟩ : Addr)) = Ai := ⟨_, rfl⟩
      obtain ⟨ci, hci⟩ : ∃ ci, vs[i].c = ci := ⟨_, rfl⟩
      obtain ⟨x, hx⟩ : ∃ x, vs[i].id = x := ⟨_, rfl⟩
      rw [hAi, hci] at c3
      rw [hAi] at hz
      rw [hx] at c0 hn1
      have hxr := H2.out.v.c.id x n hn1
      have HN := Lib.hid hn1
      have HZ := Lib.hid hz
      have HRT := Lib.hid hright.1
      have hnl := hright.2.2
      obtain ⟨it, hit⟩ : ∃ it, n.it = it := ⟨_, rfl⟩
      have HIT := Lib.hid hit
      rw [hit] at c3 HZ HRT hnl
      have L0 : Hid (∀ W, Keeps [] w2 W → W.cell? ⟨bl, off + i * 4, none⟩ = some (.int .i64 x) ∧ W.cell? ⟨bl, off + i * 4 + 3, none⟩ = some (.slice Ai it.length ci)) := Lib.hid (fun W hW => ⟨(hW.cell (p := ⟨bl, off + i * 4, none⟩) hbl (by simp)).trans c0, (hW.cell (p := ⟨bl, off + i * 4 + 3, none⟩) hbl (by simp)).trans c3⟩)
      have i0 : (0 : Int) ≤ (i : Int) := by omega
      have i1 : (i : Int) < (vs.length : Int) := by omega
      clear hc c0 c3 hn1 g3 g4 g5 g6 g7 hright hz hAi hci hx hit
      go_wp2_with fail
      go_loopw [6, 7] (fun nv kv wq => ∃ k : Nat, k ≤ s.li.length ∧ kv = .int .i64 k ∧ nv = .int .i64 (manyI (s.li.take k) x : Nat) ∧ Keeps [] w2 wq) (fun _ kv _ => s.li.length - (intOf kv).toNat)
      case atStart => exact ⟨0, by omega, rfl, by simp [manyI], KR.out⟩
      case round =>
        obtain ⟨k, hk, rfl, rfl, kq⟩ := hrel
        have KQ := Lib.hid kq
        have hL := L0.out _ kq
        have hZW := HZ.out.keep kq
        have hAR := HA2.out.keep kq
        clear kq KR
        by_cases hkl : k < s.li.length
        · obtain ⟨b3, of3, hAA, hb3, hc⟩ := hAR.at_ (by omega)
          subst hAA
          obtain ⟨d0, d1, -, -⟩ := hc k hkl
          obtain ⟨c0, c3⟩ := hL
          have j0 : (0 : Int) ≤ (k : Int) := by omega
          have j1 : (k : Int) < (s.li.length : Int) := by omega
          have hmt := many_take (l := x) hkl
          have hle : manyI (s.li.take k) x ≤ k := by unfold manyI; exact Nat.le_trans (List.length_filter_le _ _) (by rw [List.length_take]; omega)
          obtain ⟨m, hm⟩ : ∃ m, manyI (s.li.take k) x = m := ⟨_, rfl⟩
          have hhome : s.li[k].l = x → s.li[k].i ∈ it := fun e => by
            obtain ⟨⟨n', h1, h2⟩, -⟩ := H2.out.v.c.hm _ (List.getElem_mem hkl)
            rw [e, HN.out] at h1
            injection h1 with h1
            rw [← HIT.out, h1]
            exact h2.resolve_left (fun h => h)
          rw [hm] at hmt hle
          simp only [hm]
          obtain ⟨r, hr⟩ : ∃ r, s.li[k] = r := ⟨_, rfl⟩
          rw [hr] at d0 d1 hmt hhome
          clear hc hm hr
          by_cases e : r.l = x
          · rw [if_pos e] at hmt
            have HMT := Lib.hid hmt
            have CH := Lib.hid (fun W (hW : AtZ W Ai it) => has_any W Ai it ci r.i hW)
            have hmem : decide (r.i ∈ it) = true := decide_eq_true (hhome e)
            rw [hmem] at CH
            rw [e] at d0
            have HR1 : Hid (∀ W, Keeps [] wr W → W.cell? ⟨b3, of3 + k * 4 + 1, none⟩ = some (.int .i64 r.i)) := Lib.hid (fun W hW => (hW.cell (p := ⟨b3, of3 + k * 4 + 1, none⟩) hb3 (by simp)).trans d1)
            clear hmt hmem hhome hZW hAR
            go_upto_region 12 with go_quiet (fail)
            have KD : Hid (Keeps [] wr (wr.drewN nq)) := Lib.hid ((Keeps.refl _ _).drewN _)
            refine bnd12_any (wr.drewN nq) p bl off b3 of3 vs.length c1 s.li.length c2 it.length ci i k Ai r.i true _ (fun W hW => ⟨(L0.out W ((KQ.out.trans KD.out (by simp)).trans hW (by simp))).2, HR1.out W (KD.out.trans hW (by simp))⟩) i1 j1 (fun W hW => (CH.out W (HZ.out.keep ((KQ.out.trans KD.out (by simp)).trans hW (by simp)))).mono (by rintro e w9 ⟨rfl, rfl⟩; exact ⟨rfl, Keeps.refl _ _⟩)) _ _ _ _ _ _ _ _ _ _ _ _ _ _ _ _ _ _ _ _ _ _ _ _ _ _ _ _ _ _ _ _ _ _ _ _ _ _ _ _ _ _ _ _ _ _ _ _ _ _ _ _ _ _ _ _ _ _ _ _ _ _ _ _ _ _ _ _ _ _ _ _ _ _ _ _ _ _ _ _ _ _ _ _ _ _ _ _ _ _ _ _ _ _ _ _ _ _ _ _ _ _ _ _ _ _ _ _ _ _ _ _ _ _ _ _ ?_
            intro v41 v42 v43 v44 v45 v46 v47 v48 v49 v50 v51 W9 k9
            have K9 := Lib.hid ((KQ.out.trans KD.out (by simp)).trans k9 (by simp))
            clear k9 KD HR1 CH c0 c3 d0 d1 KQ
            go_wp2_with fail
            go_roundw
            case rel => exact ⟨k + 1, by omega, by go_num, by rw [HMT.out]; go_num, K9.out⟩
            case measure => simp [intOf]; omega
          · rw [if_neg e] at hmt
            have HMT := Lib.hid hmt
            clear hmt hhome hZW hAR
            go_wp2_with go_quiet (fail)
            go_roundw
            case rel => exact ⟨k + 1, by omega, by go_num, by rw [HMT.out]; go_num, KQ.out.drewN _⟩
            case measure => simp [intOf]; omega
        · obtain rfl : k = s.li.length := by omega
          rw [List.take_length]
          have hm4 := H2.out.v.c.m4 x
          have hah := ahead_frst HN.out
          rw [HIT.out] at hah
          obtain ⟨m, hm⟩ : ∃ m, manyI s.li x = m := ⟨_, rfl⟩
          rw [hm] at hm4 hah ⊢
          have HAH := Lib.hid hah
          have HZ3 := Lib.hid hZW
          clear hm hah hZW hAR hL
          go_wp2_with fail
          go_loopw [8, 9] (fun fv jv wq => ∃ j : Nat, j ≤ it.length ∧ jv = .int .i64 j ∧ Keeps [] w2 wq ∧ ((fv = .int .i64 0 ∧ frst s x (it.drop j) = frst s x it) ∨ ∃ y, 1 ≤ y ∧ fv = .int .i64 y ∧ frst s x it = some y)) (fun _ jv _ => it.length - (intOf jv).toNat)
          case atStart => exact ⟨0, by omega, rfl, KQ.out, .inl ⟨rfl, rfl⟩⟩
          case round =>
            obtain ⟨j, hj, rfl, kq, hf⟩ := hrel
            have KZ := Lib.hid kq
            obtain ⟨c0, c3⟩ := L0.out _ kq
            clear kq KQ HZ3
            have tailA : ∀ (fv : Int) (hfv : frst s x it = if fv = 0 then none else some fv) (h0 : 0 ≤ fv), True := fun _ _ _ => trivial
            clear tailA
            by_cases hjl : j < it.length
            · rcases hf with ⟨rfl, hfr⟩ | ⟨y, hy1, rfl, hfr⟩
              · have j1 : (j : Int) < (it.length : Int) := by omega
                obtain ⟨b2, o2, hAA, hb2, hc2⟩ := (HZ.out.keep KZ.out).at_ (by omega)
                subst hAA
                have d2 := hc2 j hjl
                have hpos := (HRT.out it[j] (List.getElem_mem hjl)).1
                have HSK : Hid (∀ b, runB s.li x it[j] = b → (b = true → frst s x (it.drop (j + 1)) = frst s x it) ∧ (b = false → frst s x it = some it[j])) := Lib.hid (fun b hb => ⟨fun e => frst_skip hjl hfr (hb.trans e), fun e => frst_at hjl hfr (hb.trans e)⟩)
                obtain ⟨yy, hyy⟩ : ∃ yy, it[j] = yy := ⟨_, rfl⟩
                rw [hyy] at d2 hpos HSK
                obtain ⟨b, hb⟩ : ∃ b, runB s.li x yy = b := ⟨_, rfl⟩
                have HS2 := Lib.hid (HSK.out b hb)
                have CR : Hid (∀ W, Keeps [] w2 W → Calls Try.prog 12 #[.pointer (some ⟨p, 0, none⟩), .int .i64 x, .int .i64 yy] W fun e w' => e = .returned (.bool b) ∧ Keeps [] W w') := Lib.hid (fun W hW => by
                  have := runs_sv (H2.out.keep0 hW) hΦ x yy
                  rw [hb] at this
                  exact this)
                have HD : Hid (∀ W, Keeps [] wr W → W.cell? ⟨b2, o2 + j, none⟩ = some (.int .i64 yy)) := Lib.hid (fun W hW => (hW.cell (p := ⟨b2, o2 + j, none⟩) hb2 (by simp)).trans d2)
                clear hc2 hyy HSK hb hfr
                go_upto_region 18 with fail
                refine bnd18_any wr p bl off b2 o2 vs.length c1 it.length ci i j x yy b _ (fun W hW => ⟨(L0.out W (KZ.out.trans hW (by simp))).1, (L0.out W (KZ.out.trans hW (by simp))).2, HD.out W hW⟩) i1 j1 (fun W hW => CR.out W (KZ.out.trans hW (by simp))) _ _ _ _ _ _ _ _ _ _ _ _ _ _ _ _ _ _ _ _ _ _ _ _ _ _ _ _ _ _ _ _ _ _ _ _ _ _ _ _ _ _ _ _ _ _ _ _ _ _ _ _ _ _ _ _ _ _ _ _ _ _ _ _ _ _ _ _ _ _ _ _ _ _ _ _ _ _ _ _ _ _ _ _ _ _ _ _ _ _ _ _ _ _ _ _ _ _ _ _ _ _ _ _ _ _ _ _ _ _ _ _ _ _ _ _ _ ?_
                intro v67 v68 v69 v70 v71 v72 v73 v74 v75 v76 v77 v78 v79 v80 v81 W9 k9
                have K9 := Lib.hid (KZ.out.trans k9 (by simp))
                have hcs := L0.out W9 K9.out
                have hd2 := HD.out W9 k9
                clear k9 CR HD c0 c3 d2 KZ
                obtain ⟨c0, c3⟩ := hcs
                cases b with
                | true =>
                  have HR := Lib.hid (HS2.out.1 rfl)
                  clear HS2 hpos
                  go_wp2_with fail
                  go_roundw
                  case rel => exact ⟨j + 1, by omega, by go_num, K9.out, .inl ⟨rfl, HR.out⟩⟩
                  case measure => simp [intOf]; omega
                | false =>
                  have HR := Lib.hid (HS2.out.2 rfl)
                  have HPS := Lib.hid hpos
                  clear HS2 hpos
                  go_wp2_with fail
                  go_roundw
                  case rel => exact ⟨j + 1, by omega, by go_num, K9.out, .inr ⟨yy, HPS.out, rfl, HR.out⟩⟩
                  case measure => simp [intOf]; omega
              · have j1 : (j : Int) < (it.length : Int) := by omega
                have hy0 : ¬ y = 0 := by omega
                have hah : aheadV s x = if 4 ≤ m then none else some y := by rw [HAH.out, hfr]
                by_cases h4 : 4 ≤ m
                · rw [if_pos h4] at hah
                  have h4i : ¬ (m : Int) < 4 := by omega
                  have h4j : ¬ (4 : Int) < (m : Int) := by omega
                  have CA := ahead_sv (H2.out.keep0 KZ.out) hΦ x (by omega) (by omega)
                  rw [hah] at CA
                  have CA2 : Hid (Calls Try.prog 21 #[.pointer (some ⟨p, 0, none⟩), .int .i64 x] wr fun e w' => e = .returned (.tuple #[.int .i64 0, .bool false]) ∧ Keeps [] wr w') := Lib.hid CA
                  clear CA hah HAH
                  go_wp2_with fail
                  refine CA2.out.mono ?_
                  rintro e w9 ⟨rfl, k9⟩
                  have K9 := Lib.hid (KZ.out.trans k9 (by simp))
                  clear k9 CA2 KZ c0 c3
                  go_wp2_with fail
                  go_roundw
                  case rel => exact ⟨i + 1, by omega, by go_num, K9.out⟩
                  case measure => simp [intOf]; omega
                · rw [if_neg h4] at hah
                  have h4i : (m : Int) < 4 := by omega
                  have h4j : ¬ (4 : Int) < (m : Int) := by omega
                  have hy2 : 0 < y := by omega
                  have CA := ahead_sv (H2.out.keep0 KZ.out) hΦ x (by omega) (by omega)
                  rw [hah] at CA
                  have CA2 : Hid (Calls Try.prog 21 #[.pointer (some ⟨p, 0, none⟩), .int .i64 x] wr fun e w' => e = .returned (.tuple #[.int .i64 y, .bool true]) ∧ Keeps [] wr w') := Lib.hid CA
                  clear CA hah HAH
                  go_wp2_with fail
                  refine CA2.out.mono ?_
                  rintro e w9 ⟨rfl, k9⟩
                  have K9 := Lib.hid (KZ.out.trans k9 (by simp))
                  clear k9 CA2 KZ c0 c3
                  go_wp2_with fail
                  go_roundw
                  case rel => exact ⟨i + 1, by omega, by go_num, K9.out⟩
                  case measure => simp [intOf]; omega
            · obtain rfl : j = it.length := by omega
              rcases hf with ⟨rfl, hfr⟩ | ⟨y, hy1, rfl, hfr⟩
              · have hah : aheadV s x = none := by
                  rw [HAH.out, ← hfr, List.drop_length]
                  unfold frst
                  simp
                have h4j : ¬ (4 : Int) < (m : Int) := by omega
                by_cases h4i : (m : Int) < 4
                · have CA := ahead_sv (H2.out.keep0 KZ.out) hΦ x (by omega) (by omega)
                  rw [hah] at CA
                  have CA2 : Hid (Calls Try.prog 21 #[.pointer (some ⟨p, 0, none⟩), .int .i64 x] wr fun e w' => e = .returned (.tuple #[.int .i64 0, .bool false]) ∧ Keeps [] wr w') := Lib.hid CA
                  clear CA hah HAH
                  go_wp2_with fail
                  refine CA2.out.mono ?_
                  rintro e w9 ⟨rfl, k9⟩
                  have K9 := Lib.hid (KZ.out.trans k9 (by simp))
                  clear k9 CA2 KZ c0 c3
                  go_wp2_with fail
                  go_roundw
                  case rel => exact ⟨i + 1, by omega, by go_num, K9.out⟩
                  case measure => simp [intOf]; omega
                · have CA := ahead_sv (H2.out.keep0 KZ.out) hΦ x (by omega) (by omega)
                  rw [hah] at CA
                  have CA2 : Hid (Calls Try.prog 21 #[.pointer (some ⟨p, 0, none⟩), .int .i64 x] wr fun e w' => e = .returned (.tuple #[.int .i64 0, .bool false]) ∧ Keeps [] wr w') := Lib.hid CA
                  clear CA hah HAH
                  go_wp2_with fail
                  refine CA2.out.mono ?_
                  rintro e w9 ⟨rfl, k9⟩
                  have K9 := Lib.hid (KZ.out.trans k9 (by simp))
                  clear k9 CA2 KZ c0 c3
                  go_wp2_with fail
                  go_roundw
                  case rel => exact ⟨i + 1, by omega, by go_num, K9.out⟩
                  case measure => simp [intOf]; omega
              · have hy0 : ¬ y = 0 := by omega
                have hah : aheadV s x = if 4 ≤ m then none else some y := by rw [HAH.out, hfr]
                by_cases h4 : 4 ≤ m
                · rw [if_pos h4] at hah
                  have h4i : ¬ (m : Int) < 4 := by omega
                  have h4j : ¬ (4 : Int) < (m : Int) := by omega
                  have CA := ahead_sv (H2.out.keep0 KZ.out) hΦ x (by omega) (by omega)
                  rw [hah] at CA
                  have CA2 : Hid (Calls Try.prog 21 #[.pointer (some ⟨p, 0, none⟩), .int .i64 x] wr fun e w' => e = .returned (.tuple #[.int .i64 0, .bool false]) ∧ Keeps [] wr w') := Lib.hid CA
                  clear CA hah HAH
                  go_wp2_with fail
                  refine CA2.out.mono ?_
                  rintro e w9 ⟨rfl, k9⟩
                  have K9 := Lib.hid (KZ.out.trans k9 (by simp))
                  clear k9 CA2 KZ c0 c3
                  go_wp2_with fail
                  go_roundw
                  case rel => exact ⟨i + 1, by omega, by go_num, K9.out⟩
                  case measure => simp [intOf]; omega
                · rw [if_neg h4] at hah
                  have h4i : (m : Int) < 4 := by omega
                  have h4j : ¬ (4 : Int) < (m : Int) := by omega
                  have hy2 : 0 < y := by omega
                  have CA := ahead_sv (H2.out.keep0 KZ.out) hΦ x (by omega) (by omega)
                  rw [hah] at CA
                  have CA2 : Hid (Calls Try.prog 21 #[.pointer (some ⟨p, 0, none⟩), .int .i64 x] wr fun e w' => e = .returned (.tuple #[.int .i64 y, .bool true]) ∧ Keeps [] wr w') := Lib.hid CA
                  clear CA hah HAH
                  go_wp2_with fail
                  refine CA2.out.mono ?_
                  rintro e w9 ⟨rfl, k9⟩
                  have K9 := Lib.hid (KZ.out.trans k9 (by simp))
                  clear k9 CA2 KZ c0 c3
                  go_wp2_with fail
                  go_roundw
                  case rel => exact ⟨i + 1, by omega, by go_num, K9.out⟩
                  case measure => simp [intOf]; omega
    · obtain rfl : i = vs.length := by omega
      go_wp2_with fail
      go_ret
      exact ⟨rfl, K2.out.trans KR.out (by simp)⟩
end Go.Proofs.Ytcopjjokhjealaa
