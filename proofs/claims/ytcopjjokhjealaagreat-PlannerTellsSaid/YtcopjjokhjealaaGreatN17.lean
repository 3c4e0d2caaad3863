/- The reference: SameRunning, SameCounts, SameLines, at lists that are equal. -/
import Derived.Test.YtcopjjokhjealaaGreatN16
namespace Go.Proofs.YtcopjjokhjealaaGreat
open Go.RowKit

noncomputable def sameR6C : Code := ((Tryz.f42.body.bind (theRegion 6)).getD .skip)
set_option maxRecDepth 1000000 in
set_option maxHeartbeats 1600000 in
theorem sameR6_any (w : World) (g1 o1 g2 o2 n c1 c2 k : Nat) (x : Rn) (K : Exit → Act → World → Prop) (hk : k < n)
    (a0 : w.cell? ⟨g1, o1 + k * 4, none⟩ = some (.int .i64 x.l)) (b0 : w.cell? ⟨g2, o2 + k * 4, none⟩ = some (.int .i64 x.l))
    (a1 : w.cell? ⟨g1, o1 + k * 4 + 1, none⟩ = some (.int .i64 x.i)) (b1 : w.cell? ⟨g2, o2 + k * 4 + 1, none⟩ = some (.int .i64 x.i))
    (a2 : w.cell? ⟨g1, o1 + k * 4 + 2, none⟩ = some (.int .i64 x.t)) (b2 : w.cell? ⟨g2, o2 + k * 4 + 2, none⟩ = some (.int .i64 x.t))
    (a3 : w.cell? ⟨g1, o1 + k * 4 + 3, none⟩ = some (.bool x.d)) (b3 : w.cell? ⟨g2, o2 + k * 4 + 3, none⟩ = some (.bool x.d))
    (u2 u3 u4 u6 u7 u8 u9 u10 u11 u12 u13 u14 u15 u16 u17 u18 u19 u20 u21 u22 u23 u24 u25 : Value)
    (hK : ∀ (v17 v18 v19 v20 v21 v22 v23 v24 : Value) (nq : Nat), K .normal ⟨#[.slice (some ⟨g1, o1, none⟩) n c1, .slice (some ⟨g2, o2, none⟩) n c2, u2, u3, u4, .int .i64 k, u6, u7, u8, u9, u10, u11, u12, u13, u14, u15, u16, v17, v18, v19, v20, v21, v22, v23, v24, .bool false], []⟩ (w.drewN nq)) :
    Code.wp Tryz.prog sameR6C K ⟨#[.slice (some ⟨g1, o1, none⟩) n c1, .slice (some ⟨g2, o2, none⟩) n c2, u2, u3, u4, .int .i64 k, u6, u7, u8, u9, u10, u11, u12, u13, u14, u15, u16, u17, u18, u19, u20, u21, u22, u23, u24, u25], []⟩ w := by
  have i0 : (0 : Int) ≤ (k : Int) := by omega
  have i1 : (k : Int) < (n : Int) := by omega
  clear hk
  conv => arg 2; whnf
  try dsimp only at hK ⊢
  go_quiet (fail)
  exact hK _ _ _ _ _ _ _ _ nq
set_option maxRecDepth 100000 in
set_option maxHeartbeats 3200000 in
theorem sameR_any (w : World) (A1 A2 : Option Addr) (L : List Rn) (c1 c2 : Nat) (h1 : ∀ W, Keeps [] w W → AtR W A1 L) (h2 : ∀ W, Keeps [] w W → AtR W A2 L) :
    Calls Tryz.prog 42 #[.slice A1 L.length c1, .slice A2 L.length c2] w fun e w' => e = .returned (.bool true) ∧ Keeps [] w w' := by
  have hm := (h1 w (Keeps.refl _ _)).mx
  have H1 := Lib.hid h1
  have H2 := Lib.hid h2
  clear h1 h2
  go_enter Tryz.func42, Tryz.ntmps42
  go_wp2_with fail
  go_loopw [5] (fun iv wr => ∃ k : Nat, k ≤ L.length ∧ iv = .int .i64 k ∧ Keeps [] w wr) (fun iv _ => L.length - (intOf iv).toNat)
  case atStart => exact ⟨0, by omega, rfl, Keeps.refl _ _⟩
  case round =>
    obtain ⟨k, hk, rfl, kp⟩ := hrel
    have KP := Lib.hid kp
    clear kp
    by_cases hlt : k < L.length
    · obtain ⟨p1, o1, hA, -, hc⟩ := (H1.out wr KP.out).at_ (by omega)
      obtain ⟨p2, o2, hB, -, hd⟩ := (H2.out wr KP.out).at_ (by omega)
      subst hA hB
      have hc := hc k hlt
      have hd := hd k hlt
      obtain ⟨x, hx⟩ : ∃ x, L[k] = x := ⟨_, rfl⟩
      rw [hx] at hc hd
      obtain ⟨a0, a1, a2, a3⟩ := hc
      obtain ⟨b0, b1, b2, b3⟩ := hd
      clear hx
      go_upto_region 6 with fail
      refine sameR6_any wr p1 o1 p2 o2 L.length c1 c2 k x _ hlt a0 b0 a1 b1 a2 b2 a3 b3 _ _ _ _ _ _ _ _ _ _ _ _ _ _ _ _ _ _ _ _ _ _ _ ?_
      intro v17 v18 v19 v20 v21 v22 v23 v24 nq
      go_wp2_with fail
      go_roundw
      case rel => exact ⟨k + 1, by omega, by go_num, KP.out.drewN nq⟩
      case measure => simp [intOf]; omega
    · obtain rfl : k = L.length := by omega
      go_wp2_with fail
      go_ret
      exact ⟨rfl, KP.out⟩
noncomputable def sameC6C : Code := ((Tryz.f44.body.bind (theRegion 6)).getD .skip)
set_option maxRecDepth 1000000 in
set_option maxHeartbeats 1600000 in
theorem sameC6_any (w : World) (g1 o1 g2 o2 n c1 c2 k : Nat) (x : Ct) (K : Exit → Act → World → Prop) (hk : k < n)
    (a0 : w.cell? ⟨g1, o1 + k * 7, none⟩ = some (.int .i64 x.l)) (b0 : w.cell? ⟨g2, o2 + k * 7, none⟩ = some (.int .i64 x.l))
    (a1 : w.cell? ⟨g1, o1 + k * 7 + 1, none⟩ = some (.int .i64 x.i)) (b1 : w.cell? ⟨g2, o2 + k * 7 + 1, none⟩ = some (.int .i64 x.i))
    (a2 : w.cell? ⟨g1, o1 + k * 7 + 2, none⟩ = some (.int .i64 x.runs)) (b2 : w.cell? ⟨g2, o2 + k * 7 + 2, none⟩ = some (.int .i64 x.runs))
    (a3 : w.cell? ⟨g1, o1 + k * 7 + 3, none⟩ = some (.int .i64 x.com)) (b3 : w.cell? ⟨g2, o2 + k * 7 + 3, none⟩ = some (.int .i64 x.com))
    (a4 : w.cell? ⟨g1, o1 + k * 7 + 4, none⟩ = some (.int .i64 x.con)) (b4 : w.cell? ⟨g2, o2 + k * 7 + 4, none⟩ = some (.int .i64 x.con))
    (a5 : w.cell? ⟨g1, o1 + k * 7 + 5, none⟩ = some (.int .i64 x.drp)) (b5 : w.cell? ⟨g2, o2 + k * 7 + 5, none⟩ = some (.int .i64 x.drp))
    (a6 : w.cell? ⟨g1, o1 + k * 7 + 6, none⟩ = some (.int .i64 x.str)) (b6 : w.cell? ⟨g2, o2 + k * 7 + 6, none⟩ = some (.int .i64 x.str))
    (u2 u3 u4 u6 u7 u8 u9 u10 u11 u12 u13 u14 u15 u16 u17 u18 u19 u20 u21 u22 u23 u24 u25 : Value)
    (hK : ∀ (v17 v18 v19 v20 v21 v22 v23 v24 : Value) (nq : Nat), K .normal ⟨#[.slice (some ⟨g1, o1, none⟩) n c1, .slice (some ⟨g2, o2, none⟩) n c2, u2, u3, u4, .int .i64 k, u6, u7, u8, u9, u10, u11, u12, u13, u14, u15, u16, v17, v18, v19, v20, v21, v22, v23, v24, .bool false], []⟩ (w.drewN nq)) :
    Code.wp Tryz.prog sameC6C K ⟨#[.slice (some ⟨g1, o1, none⟩) n c1, .slice (some ⟨g2, o2, none⟩) n c2, u2, u3, u4, .int .i64 k, u6, u7, u8, u9, u10, u11, u12, u13, u14, u15, u16, u17, u18, u19, u20, u21, u22, u23, u24, u25], []⟩ w := by
  have i0 : (0 : Int) ≤ (k : Int) := by omega
  have i1 : (k : Int) < (n : Int) := by omega
  clear hk
  conv => arg 2; whnf
  try dsimp only at hK ⊢
  go_quiet (fail)
  exact hK _ _ _ _ _ _ _ _ nq
set_option maxRecDepth 100000 in
set_option maxHeartbeats 3200000 in
theorem sameC_any (w : World) (A1 A2 : Option Addr) (L : List Ct) (c1 c2 : Nat) (h1 : ∀ W, Keeps [] w W → AtC W A1 L) (h2 : ∀ W, Keeps [] w W → AtC W A2 L) :
    Calls Tryz.prog 44 #[.slice A1 L.length c1, .slice A2 L.length c2] w fun e w' => e = .returned (.bool true) ∧ Keeps [] w w' := by
  have hm := (h1 w (Keeps.refl _ _)).mx
  have H1 := Lib.hid h1
  have H2 := Lib.hid h2
  clear h1 h2
  go_enter Tryz.func44, Tryz.ntmps44
  go_wp2_with fail
  go_loopw [5] (fun iv wr => ∃ k : Nat, k ≤ L.length ∧ iv = .int .i64 k ∧ Keeps [] w wr) (fun iv _ => L.length - (intOf iv).toNat)
  case atStart => exact ⟨0, by omega, rfl, Keeps.refl _ _⟩
  case round =>
    obtain ⟨k, hk, rfl, kp⟩ := hrel
    have KP := Lib.hid kp
    clear kp
    by_cases hlt : k < L.length
    · obtain ⟨p1, o1, hA, -, hc⟩ := (H1.out wr KP.out).at_ (by omega)
      obtain ⟨p2, o2, hB, -, hd⟩ := (H2.out wr KP.out).at_ (by omega)
      subst hA hB
      have hc := hc k hlt
      have hd := hd k hlt
      obtain ⟨x, hx⟩ : ∃ x, L[k] = x := ⟨_, rfl⟩
      rw [hx] at hc hd
      obtain ⟨a0, a1, a2, a3, a4, a5, a6⟩ := hc
      obtain ⟨b0, b1, b2, b3, b4, b5, b6⟩ := hd
      clear hx
      go_upto_region 6 with fail
      refine sameC6_any wr p1 o1 p2 o2 L.length c1 c2 k x _ hlt a0 b0 a1 b1 a2 b2 a3 b3 a4 b4 a5 b5 a6 b6 _ _ _ _ _ _ _ _ _ _ _ _ _ _ _ _ _ _ _ _ _ _ _ ?_
      intro v17 v18 v19 v20 v21 v22 v23 v24 nq
      go_wp2_with fail
      go_roundw
      case rel => exact ⟨k + 1, by omega, by go_num, KP.out.drewN nq⟩
      case measure => simp [intOf]; omega
    · obtain rfl : k = L.length := by omega
      go_wp2_with fail
      go_ret
      exact ⟨rfl, KP.out⟩
noncomputable def sameL6C : Code := ((Tryz.f40.body.bind (theRegion 6)).getD .skip)
set_option maxRecDepth 1000000 in
set_option maxHeartbeats 1600000 in
theorem sameL6_any (w : World) (g1 o1 g2 o2 n c1 c2 k : Nat) (x y z : Int) (V1 V2 : Value) (K : Exit → Act → World → Prop) (hk : k < n)
    (a0 : ∀ W, Keeps [] w W → W.cell? ⟨g1, o1 + k * 4, none⟩ = some (.int .i64 x) ∧ W.cell? ⟨g1, o1 + k * 4 + 1, none⟩ = some (.int .i64 y) ∧ W.cell? ⟨g1, o1 + k * 4 + 2, none⟩ = some (.int .i64 z) ∧ W.cell? ⟨g1, o1 + k * 4 + 3, none⟩ = some V1 ∧
      W.cell? ⟨g2, o2 + k * 4, none⟩ = some (.int .i64 x) ∧ W.cell? ⟨g2, o2 + k * 4 + 1, none⟩ = some (.int .i64 y) ∧ W.cell? ⟨g2, o2 + k * 4 + 2, none⟩ = some (.int .i64 z) ∧ W.cell? ⟨g2, o2 + k * 4 + 3, none⟩ = some V2)
    (hC : ∀ W, Keeps [] w W → Calls Tryz.prog 10 #[V1, V2] W fun e w' => e = .returned (.bool true) ∧ Keeps [] W w')
    (u2 u3 u4 u6 u7 u8 u9 u10 u11 u12 u13 u14 u15 u16 u17 u18 u19 u20 u21 u22 u23 u24 u25 u26 u27 u28 u29 u30 u31 u32 u33 u34 u35 u36 u37 u38 u39 u40 u41 u42 u43 u44 u45 u46 u47 u48 u49 u50 u51 u52 u53 u54 u55 u56 u57 u58 u59 u60 u61 u62 u63 u64 u65 u66 u67 : Value)
    (hK : ∀ (v17 v18 v19 v20 v21 v22 v23 v24 v25 v26 v27 v28 v29 v30 v31 v32 v33 v34 v35 v36 v37 v38 v39 v40 v41 v42 v43 v44 v45 v46 v47 v48 v49 v50 v51 v52 v53 v54 v55 v56 v57 v58 v59 v60 v61 v62 v63 v64 v65 v66 : Value) (W : World), Keeps [] w W → K .normal ⟨#[.slice (some ⟨g1, o1, none⟩) n c1, .slice (some ⟨g2, o2, none⟩) n c2, u2, u3, u4, .int .i64 k, u6, u7, u8, u9, u10, u11, u12, u13, u14, u15, u16, v17, v18, v19, v20, v21, v22, v23, v24, v25, v26, v27, v28, v29, v30, v31, v32, v33, v34, v35, v36, v37, v38, v39, v40, v41, v42, v43, v44, v45, v46, v47, v48, v49, v50, v51, v52, v53, v54, v55, v56, v57, v58, v59, v60, v61, v62, v63, v64, v65, v66, .bool false], []⟩ W) :
    Code.wp Tryz.prog sameL6C K ⟨#[.slice (some ⟨g1, o1, none⟩) n c1, .slice (some ⟨g2, o2, none⟩) n c2, u2, u3, u4, .int .i64 k, u6, u7, u8, u9, u10, u11, u12, u13, u14, u15, u16, u17, u18, u19, u20, u21, u22, u23, u24, u25, u26, u27, u28, u29, u30, u31, u32, u33, u34, u35, u36, u37, u38, u39, u40, u41, u42, u43, u44, u45, u46, u47, u48, u49, u50, u51, u52, u53, u54, u55, u56, u57, u58, u59, u60, u61, u62, u63, u64, u65, u66, u67], []⟩ w := by
  have HS := Lib.hid a0
  have HC := Lib.hid hC
  have i0 : (0 : Int) ≤ (k : Int) := by omega
  have i1 : (k : Int) < (n : Int) := by omega
  clear a0 hC hk
  conv => arg 2; whnf
  try dsimp only at hK ⊢
  refine wp_region_noPanic ?_
  refine wp_region_held_drew (S := fun W => W.cell? ⟨g1, o1 + k * 4, none⟩ = some (.int .i64 x) ∧ W.cell? ⟨g1, o1 + k * 4 + 1, none⟩ = some (.int .i64 y) ∧ W.cell? ⟨g1, o1 + k * 4 + 2, none⟩ = some (.int .i64 z) ∧ W.cell? ⟨g1, o1 + k * 4 + 3, none⟩ = some V1 ∧ W.cell? ⟨g2, o2 + k * 4, none⟩ = some (.int .i64 x) ∧ W.cell? ⟨g2, o2 + k * 4 + 1, none⟩ = some (.int .i64 y) ∧ W.cell? ⟨g2, o2 + k * 4 + 2, none⟩ = some (.int .i64 z) ∧ W.cell? ⟨g2, o2 + k * 4 + 3, none⟩ = some V2) (by kernel_rfl) (HS.out _ ((Keeps.refl [] w).drew)) (fun hHeld => ?_)
  obtain ⟨w0, hw0⟩ : ∃ w0, w.drew = w0 := ⟨_, rfl⟩
  try rw [hw0] at hHeld
  rw [hw0]
  have K0 : Keeps [] w w0 := by rw [← hw0]; exact (Keeps.refl [] w).drew
  clear hw0
  refine wpAnyH_take (i := 0) (oi := ⟨some 17, Op.move (Operand.tmp 0), 62, _, _, none⟩) (v := ?vq1) rfl (by kernel_rfl) (by kernel_rfl) (by kernel_rfl) (fun _ _ _ h => h) (Or.inl ⟨by rfl, fun W hW => ?_⟩) (by assumption) ?_
  rotate_left
  · go_simp
    with_reducible rfl
  try simp only [Act.put, List.setIfInBounds_toArray, List.set_cons_zero, List.set_cons_succ]
  refine wpAnyH_take (i := 1) (oi := ⟨some 18, Op.move (Operand.tmp 5), 3, _, _, none⟩) (v := ?vq2) rfl (by kernel_rfl) (by kernel_rfl) (by kernel_rfl) (fun _ _ _ h => h) (Or.inl ⟨by rfl, fun W hW => ?_⟩) (by assumption) ?_
  rotate_left
  · go_simp
    with_reducible rfl
  try simp only [Act.put, List.setIfInBounds_toArray, List.set_cons_zero, List.set_cons_succ]
  refine wpAnyH_take (i := 2) (oi := ⟨some 19, Op.indexAddr 62 (Operand.tmp 17) (Operand.tmp 18), 0, _, _, none⟩) (v := ?vq3) rfl (by kernel_rfl) (by kernel_rfl) (by kernel_rfl) (fun _ _ _ h => h) (Or.inl ⟨by rfl, fun W hW => ?_⟩) (by assumption) ?_
  rotate_left
  · go_simp
    with_reducible rfl
  try simp only [Act.put, List.setIfInBounds_toArray, List.set_cons_zero, List.set_cons_succ]
  refine wpAnyH_take (i := 3) (oi := ⟨some 20, Op.fieldAddr 56 (Operand.tmp 19) 0, 0, _, _, none⟩) (v := ?vq4) rfl (by kernel_rfl) (by kernel_rfl) (by kernel_rfl) (fun _ _ _ h => h) (Or.inl ⟨by rfl, fun W hW => ?_⟩) (by assumption) ?_
  rotate_left
  · go_simp
    with_reducible rfl
  try simp only [Act.put, List.setIfInBounds_toArray, List.set_cons_zero, List.set_cons_succ]
  refine wpAnyH_take (i := 4) (oi := ⟨some 21, Op.load 3 (Operand.tmp 20), 3, _, _, none⟩) (v := .int .i64 x) rfl (by kernel_rfl) (by kernel_rfl) (by kernel_rfl) (fun _ _ _ h => h) (Or.inl ⟨by rfl, fun W hW => ?_⟩) (by assumption) ?_
  · (have a0 := hW.1; clear hW; go_simp)
  try simp only [Act.put, List.setIfInBounds_toArray, List.set_cons_zero, List.set_cons_succ]
  refine wpAnyH_take (i := 5) (oi := ⟨some 22, Op.move (Operand.tmp 1), 62, _, _, none⟩) (v := ?vq5) rfl (by kernel_rfl) (by kernel_rfl) (by kernel_rfl) (fun _ _ _ h => h) (Or.inl ⟨by rfl, fun W hW => ?_⟩) (by assumption) ?_
  rotate_left
  · go_simp
    with_reducible rfl
  try simp only [Act.put, List.setIfInBounds_toArray, List.set_cons_zero, List.set_cons_succ]
  refine wpAnyH_take (i := 6) (oi := ⟨some 23, Op.move (Operand.tmp 5), 3, _, _, none⟩) (v := ?vq6) rfl (by kernel_rfl) (by kernel_rfl) (by kernel_rfl) (fun _ _ _ h => h) (Or.inl ⟨by rfl, fun W hW => ?_⟩) (by assumption) ?_
  rotate_left
  · go_simp
    with_reducible rfl
  try simp only [Act.put, List.setIfInBounds_toArray, List.set_cons_zero, List.set_cons_succ]
  refine wpAnyH_take (i := 7) (oi := ⟨some 24, Op.indexAddr 62 (Operand.tmp 22) (Operand.tmp 23), 0, _, _, none⟩) (v := ?vq7) rfl (by kernel_rfl) (by kernel_rfl) (by kernel_rfl) (fun _ _ _ h => h) (Or.inl ⟨by rfl, fun W hW => ?_⟩) (by assumption) ?_
  rotate_left
  · go_simp
    with_reducible rfl
  try simp only [Act.put, List.setIfInBounds_toArray, List.set_cons_zero, List.set_cons_succ]
  refine wpAnyH_take (i := 8) (oi := ⟨some 25, Op.fieldAddr 56 (Operand.tmp 24) 0, 0, _, _, none⟩) (v := ?vq8) rfl (by kernel_rfl) (by kernel_rfl) (by kernel_rfl) (fun _ _ _ h => h) (Or.inl ⟨by rfl, fun W hW => ?_⟩) (by assumption) ?_
  rotate_left
  · go_simp
    with_reducible rfl
  try simp only [Act.put, List.setIfInBounds_toArray, List.set_cons_zero, List.set_cons_succ]
  refine wpAnyH_take (i := 9) (oi := ⟨some 26, Op.load 3 (Operand.tmp 25), 3, _, _, none⟩) (v := .int .i64 x) rfl (by kernel_rfl) (by kernel_rfl) (by kernel_rfl) (fun _ _ _ h => h) (Or.inl ⟨by rfl, fun W hW => ?_⟩) (by assumption) ?_
  · (have a0 := hW.2.2.2.2.1; clear hW; go_simp)
  try simp only [Act.put, List.setIfInBounds_toArray, List.set_cons_zero, List.set_cons_succ]
  refine wpAnyH_take (i := 10) (oi := ⟨some 27, Op.binOp BinOp.neq 3 (Operand.tmp 21) (Operand.tmp 26) 3, 4, _, _, none⟩) (v := .bool false) rfl (by kernel_rfl) (by kernel_rfl) (by kernel_rfl) (fun _ _ _ h => h) (Or.inl ⟨by rfl, fun W hW => ?_⟩) (by assumption) ?_
  · go_simp
  try simp only [Act.put, List.setIfInBounds_toArray, List.set_cons_zero, List.set_cons_succ]
  refine wpAnyH_take (i := 11) (oi := ⟨some 28, Op.move (Operand.tmp 27), 4, _, _, none⟩) (v := ?vq9) rfl (by kernel_rfl) (by kernel_rfl) (by kernel_rfl) (fun _ _ _ h => h) (Or.inl ⟨by rfl, fun W hW => ?_⟩) (by assumption) ?_
  rotate_left
  · go_simp
    with_reducible rfl
  try simp only [Act.put, List.setIfInBounds_toArray, List.set_cons_zero, List.set_cons_succ]
  refine wpAnyH_take (i := 12) (oi := ⟨some 29, Op.move (Operand.tmp 0), 62, _, _, some (11, false)⟩) (v := ?vq10) rfl (by kernel_rfl) (by kernel_rfl) (by kernel_rfl) (fun _ _ _ h => h) (Or.inl ⟨by rfl, fun W hW => ?_⟩) (by assumption) ?_
  rotate_left
  · go_simp
    with_reducible rfl
  try simp only [Act.put, List.setIfInBounds_toArray, List.set_cons_zero, List.set_cons_succ]
  refine wpAnyH_take (i := 13) (oi := ⟨some 30, Op.move (Operand.tmp 5), 3, _, _, some (11, false)⟩) (v := ?vq11) rfl (by kernel_rfl) (by kernel_rfl) (by kernel_rfl) (fun _ _ _ h => h) (Or.inl ⟨by rfl, fun W hW => ?_⟩) (by assumption) ?_
  rotate_left
  · go_simp
    with_reducible rfl
  try simp only [Act.put, List.setIfInBounds_toArray, List.set_cons_zero, List.set_cons_succ]
  refine wpAnyH_take (i := 14) (oi := ⟨some 31, Op.indexAddr 62 (Operand.tmp 29) (Operand.tmp 30), 0, _, _, some (11, false)⟩) (v := ?vq12) rfl (by kernel_rfl) (by kernel_rfl) (by kernel_rfl) (fun _ _ _ h => h) (Or.inl ⟨by rfl, fun W hW => ?_⟩) (by assumption) ?_
  rotate_left
  · go_simp
    with_reducible rfl
  try simp only [Act.put, List.setIfInBounds_toArray, List.set_cons_zero, List.set_cons_succ]
  refine wpAnyH_take (i := 15) (oi := ⟨some 32, Op.fieldAddr 56 (Operand.tmp 31) 1, 0, _, _, some (11, false)⟩) (v := ?vq13) rfl (by kernel_rfl) (by kernel_rfl) (by kernel_rfl) (fun _ _ _ h => h) (Or.inl ⟨by rfl, fun W hW => ?_⟩) (by assumption) ?_
  rotate_left
  · go_simp
    with_reducible rfl
  try simp only [Act.put, List.setIfInBounds_toArray, List.set_cons_zero, List.set_cons_succ]
  refine wpAnyH_take (i := 16) (oi := ⟨some 33, Op.load 3 (Operand.tmp 32), 3, _, _, some (11, false)⟩) (v := .int .i64 y) rfl (by kernel_rfl) (by kernel_rfl) (by kernel_rfl) (fun _ _ _ h => h) (Or.inl ⟨by rfl, fun W hW => ?_⟩) (by assumption) ?_
  · (have a0 := hW.2.1; clear hW; go_simp)
  try simp only [Act.put, List.setIfInBounds_toArray, List.set_cons_zero, List.set_cons_succ]
  refine wpAnyH_take (i := 17) (oi := ⟨some 34, Op.move (Operand.tmp 1), 62, _, _, some (11, false)⟩) (v := ?vq14) rfl (by kernel_rfl) (by kernel_rfl) (by kernel_rfl) (fun _ _ _ h => h) (Or.inl ⟨by rfl, fun W hW => ?_⟩) (by assumption) ?_
  rotate_left
  · go_simp
    with_reducible rfl
  try simp only [Act.put, List.setIfInBounds_toArray, List.set_cons_zero, List.set_cons_succ]
  refine wpAnyH_take (i := 18) (oi := ⟨some 35, Op.move (Operand.tmp 5), 3, _, _, some (11, false)⟩) (v := ?vq15) rfl (by kernel_rfl) (by kernel_rfl) (by kernel_rfl) (fun _ _ _ h => h) (Or.inl ⟨by rfl, fun W hW => ?_⟩) (by assumption) ?_
  rotate_left
  · go_simp
    with_reducible rfl
  try simp only [Act.put, List.setIfInBounds_toArray, List.set_cons_zero, List.set_cons_succ]
  refine wpAnyH_take (i := 19) (oi := ⟨some 36, Op.indexAddr 62 (Operand.tmp 34) (Operand.tmp 35), 0, _, _, some (11, false)⟩) (v := ?vq16) rfl (by kernel_rfl) (by kernel_rfl) (by kernel_rfl) (fun _ _ _ h => h) (Or.inl ⟨by rfl, fun W hW => ?_⟩) (by assumption) ?_
  rotate_left
  · go_simp
    with_reducible rfl
  try simp only [Act.put, List.setIfInBounds_toArray, List.set_cons_zero, List.set_cons_succ]
  refine wpAnyH_take (i := 20) (oi := ⟨some 37, Op.fieldAddr 56 (Operand.tmp 36) 1, 0, _, _, some (11, false)⟩) (v := ?vq17) rfl (by kernel_rfl) (by kernel_rfl) (by kernel_rfl) (fun _ _ _ h => h) (Or.inl ⟨by rfl, fun W hW => ?_⟩) (by assumption) ?_
  rotate_left
  · go_simp
    with_reducible rfl
  try simp only [Act.put, List.setIfInBounds_toArray, List.set_cons_zero, List.set_cons_succ]
  refine wpAnyH_take (i := 21) (oi := ⟨some 38, Op.load 3 (Operand.tmp 37), 3, _, _, some (11, false)⟩) (v := .int .i64 y) rfl (by kernel_rfl) (by kernel_rfl) (by kernel_rfl) (fun _ _ _ h => h) (Or.inl ⟨by rfl, fun W hW => ?_⟩) (by assumption) ?_
  · (have a0 := hW.2.2.2.2.2.1; clear hW; go_simp)
  try simp only [Act.put, List.setIfInBounds_toArray, List.set_cons_zero, List.set_cons_succ]
  refine wpAnyH_take (i := 22) (oi := ⟨some 39, Op.binOp BinOp.neq 3 (Operand.tmp 33) (Operand.tmp 38) 3, 4, _, _, some (11, false)⟩) (v := .bool false) rfl (by kernel_rfl) (by kernel_rfl) (by kernel_rfl) (fun _ _ _ h => h) (Or.inl ⟨by rfl, fun W hW => ?_⟩) (by assumption) ?_
  · go_simp
  try simp only [Act.put, List.setIfInBounds_toArray, List.set_cons_zero, List.set_cons_succ]
  refine wpAnyH_take (i := 23) (oi := ⟨some 40, Op.pick (Operand.tmp 28) (Operand.const (Value.bool true)) (Operand.tmp 39), 4, _, _, none⟩) (v := ?vq18) rfl (by kernel_rfl) (by kernel_rfl) (by kernel_rfl) (fun _ _ _ h => h) (Or.inl ⟨by rfl, fun W hW => ?_⟩) (by assumption) ?_
  rotate_left
  · go_simp
    with_reducible rfl
  try simp only [Act.put, List.setIfInBounds_toArray, List.set_cons_zero, List.set_cons_succ]
  refine wpAnyH_take (i := 24) (oi := ⟨some 41, Op.move (Operand.tmp 40), 4, _, _, none⟩) (v := ?vq19) rfl (by kernel_rfl) (by kernel_rfl) (by kernel_rfl) (fun _ _ _ h => h) (Or.inl ⟨by rfl, fun W hW => ?_⟩) (by assumption) ?_
  rotate_left
  · go_simp
    with_reducible rfl
  try simp only [Act.put, List.setIfInBounds_toArray, List.set_cons_zero, List.set_cons_succ]
  refine wpAnyH_take (i := 25) (oi := ⟨some 42, Op.move (Operand.tmp 0), 62, _, _, some (24, false)⟩) (v := ?vq20) rfl (by kernel_rfl) (by kernel_rfl) (by kernel_rfl) (fun _ _ _ h => h) (Or.inl ⟨by rfl, fun W hW => ?_⟩) (by assumption) ?_
  rotate_left
  · go_simp
    with_reducible rfl
  try simp only [Act.put, List.setIfInBounds_toArray, List.set_cons_zero, List.set_cons_succ]
  refine wpAnyH_take (i := 26) (oi := ⟨some 43, Op.move (Operand.tmp 5), 3, _, _, some (24, false)⟩) (v := ?vq21) rfl (by kernel_rfl) (by kernel_rfl) (by kernel_rfl) (fun _ _ _ h => h) (Or.inl ⟨by rfl, fun W hW => ?_⟩) (by assumption) ?_
  rotate_left
  · go_simp
    with_reducible rfl
  try simp only [Act.put, List.setIfInBounds_toArray, List.set_cons_zero, List.set_cons_succ]
  refine wpAnyH_take (i := 27) (oi := ⟨some 44, Op.indexAddr 62 (Operand.tmp 42) (Operand.tmp 43), 0, _, _, some (24, false)⟩) (v := ?vq22) rfl (by kernel_rfl) (by kernel_rfl) (by kernel_rfl) (fun _ _ _ h => h) (Or.inl ⟨by rfl, fun W hW => ?_⟩) (by assumption) ?_
  rotate_left
  · go_simp
    with_reducible rfl
  try simp only [Act.put, List.setIfInBounds_toArray, List.set_cons_zero, List.set_cons_succ]
  refine wpAnyH_take (i := 28) (oi := ⟨some 45, Op.fieldAddr 56 (Operand.tmp 44) 2, 0, _, _, some (24, false)⟩) (v := ?vq23) rfl (by kernel_rfl) (by kernel_rfl) (by kernel_rfl) (fun _ _ _ h => h) (Or.inl ⟨by rfl, fun W hW => ?_⟩) (by assumption) ?_
  rotate_left
  · go_simp
    with_reducible rfl
  try simp only [Act.put, List.setIfInBounds_toArray, List.set_cons_zero, List.set_cons_succ]
  refine wpAnyH_take (i := 29) (oi := ⟨some 46, Op.load 3 (Operand.tmp 45), 3, _, _, some (24, false)⟩) (v := .int .i64 z) rfl (by kernel_rfl) (by kernel_rfl) (by kernel_rfl) (fun _ _ _ h => h) (Or.inl ⟨by rfl, fun W hW => ?_⟩) (by assumption) ?_
  · (have a0 := hW.2.2.1; clear hW; go_simp)
  try simp only [Act.put, List.setIfInBounds_toArray, List.set_cons_zero, List.set_cons_succ]
  refine wpAnyH_take (i := 30) (oi := ⟨some 47, Op.move (Operand.tmp 1), 62, _, _, some (24, false)⟩) (v := ?vq24) rfl (by kernel_rfl) (by kernel_rfl) (by kernel_rfl) (fun _ _ _ h => h) (Or.inl ⟨by rfl, fun W hW => ?_⟩) (by assumption) ?_
  rotate_left
  · go_simp
    with_reducible rfl
  try simp only [Act.put, List.setIfInBounds_toArray, List.set_cons_zero, List.set_cons_succ]
  refine wpAnyH_take (i := 31) (oi := ⟨some 48, Op.move (Operand.tmp 5), 3, _, _, some (24, false)⟩) (v := ?vq25) rfl (by kernel_rfl) (by kernel_rfl) (by kernel_rfl) (fun _ _ _ h => h) (Or.inl ⟨by rfl, fun W hW => ?_⟩) (by assumption) ?_
  rotate_left
  · go_simp
    with_reducible rfl
  try simp only [Act.put, List.setIfInBounds_toArray, List.set_cons_zero, List.set_cons_succ]
  refine wpAnyH_take (i := 32) (oi := ⟨some 49, Op.indexAddr 62 (Operand.tmp 47) (Operand.tmp 48), 0, _, _, some (24, false)⟩) (v := ?vq26) rfl (by kernel_rfl) (by kernel_rfl) (by kernel_rfl) (fun _ _ _ h => h) (Or.inl ⟨by rfl, fun W hW => ?_⟩) (by assumption) ?_
  rotate_left
  · go_simp
    with_reducible rfl
  try simp only [Act.put, List.setIfInBounds_toArray, List.set_cons_zero, List.set_cons_succ]
  refine wpAnyH_take (i := 33) (oi := ⟨some 50, Op.fieldAddr 56 (Operand.tmp 49) 2, 0, _, _, some (24, false)⟩) (v := ?vq27) rfl (by kernel_rfl) (by kernel_rfl) (by kernel_rfl) (fun _ _ _ h => h) (Or.inl ⟨by rfl, fun W hW => ?_⟩) (by assumption) ?_
  rotate_left
  · go_simp
    with_reducible rfl
  try simp only [Act.put, List.setIfInBounds_toArray, List.set_cons_zero, List.set_cons_succ]
  refine wpAnyH_take (i := 34) (oi := ⟨some 51, Op.load 3 (Operand.tmp 50), 3, _, _, some (24, false)⟩) (v := .int .i64 z) rfl (by kernel_rfl) (by kernel_rfl) (by kernel_rfl) (fun _ _ _ h => h) (Or.inl ⟨by rfl, fun W hW => ?_⟩) (by assumption) ?_
  · (have a0 := hW.2.2.2.2.2.2.1; clear hW; go_simp)
  try simp only [Act.put, List.setIfInBounds_toArray, List.set_cons_zero, List.set_cons_succ]
  refine wpAnyH_take (i := 35) (oi := ⟨some 52, Op.binOp BinOp.neq 3 (Operand.tmp 46) (Operand.tmp 51) 3, 4, _, _, some (24, false)⟩) (v := .bool false) rfl (by kernel_rfl) (by kernel_rfl) (by kernel_rfl) (fun _ _ _ h => h) (Or.inl ⟨by rfl, fun W hW => ?_⟩) (by assumption) ?_
  · go_simp
  try simp only [Act.put, List.setIfInBounds_toArray, List.set_cons_zero, List.set_cons_succ]
  refine wpAnyH_take (i := 36) (oi := ⟨some 53, Op.pick (Operand.tmp 41) (Operand.const (Value.bool true)) (Operand.tmp 52), 4, _, _, none⟩) (v := ?vq28) rfl (by kernel_rfl) (by kernel_rfl) (by kernel_rfl) (fun _ _ _ h => h) (Or.inl ⟨by rfl, fun W hW => ?_⟩) (by assumption) ?_
  rotate_left
  · go_simp
    with_reducible rfl
  try simp only [Act.put, List.setIfInBounds_toArray, List.set_cons_zero, List.set_cons_succ]
  refine wpAnyH_take (i := 37) (oi := ⟨some 54, Op.move (Operand.tmp 53), 4, _, _, none⟩) (v := ?vq29) rfl (by kernel_rfl) (by kernel_rfl) (by kernel_rfl) (fun _ _ _ h => h) (Or.inl ⟨by rfl, fun W hW => ?_⟩) (by assumption) ?_
  rotate_left
  · go_simp
    with_reducible rfl
  try simp only [Act.put, List.setIfInBounds_toArray, List.set_cons_zero, List.set_cons_succ]
  refine wpAnyH_take (i := 38) (oi := ⟨some 55, Op.move (Operand.tmp 0), 62, _, _, some (37, false)⟩) (v := ?vq30) rfl (by kernel_rfl) (by kernel_rfl) (by kernel_rfl) (fun _ _ _ h => h) (Or.inl ⟨by rfl, fun W hW => ?_⟩) (by assumption) ?_
  rotate_left
  · go_simp
    with_reducible rfl
  try simp only [Act.put, List.setIfInBounds_toArray, List.set_cons_zero, List.set_cons_succ]
  refine wpAnyH_take (i := 39) (oi := ⟨some 56, Op.move (Operand.tmp 5), 3, _, _, some (37, false)⟩) (v := ?vq31) rfl (by kernel_rfl) (by kernel_rfl) (by kernel_rfl) (fun _ _ _ h => h) (Or.inl ⟨by rfl, fun W hW => ?_⟩) (by assumption) ?_
  rotate_left
  · go_simp
    with_reducible rfl
  try simp only [Act.put, List.setIfInBounds_toArray, List.set_cons_zero, List.set_cons_succ]
  refine wpAnyH_take (i := 40) (oi := ⟨some 57, Op.indexAddr 62 (Operand.tmp 55) (Operand.tmp 56), 0, _, _, some (37, false)⟩) (v := ?vq32) rfl (by kernel_rfl) (by kernel_rfl) (by kernel_rfl) (fun _ _ _ h => h) (Or.inl ⟨by rfl, fun W hW => ?_⟩) (by assumption) ?_
  rotate_left
  · go_simp
    with_reducible rfl
  try simp only [Act.put, List.setIfInBounds_toArray, List.set_cons_zero, List.set_cons_succ]
  refine wpAnyH_take (i := 41) (oi := ⟨some 58, Op.fieldAddr 56 (Operand.tmp 57) 3, 0, _, _, some (37, false)⟩) (v := ?vq33) rfl (by kernel_rfl) (by kernel_rfl) (by kernel_rfl) (fun _ _ _ h => h) (Or.inl ⟨by rfl, fun W hW => ?_⟩) (by assumption) ?_
  rotate_left
  · go_simp
    with_reducible rfl
  try simp only [Act.put, List.setIfInBounds_toArray, List.set_cons_zero, List.set_cons_succ]
  refine wpAnyH_take (i := 42) (oi := ⟨some 59, Op.load 22 (Operand.tmp 58), 22, _, _, some (37, false)⟩) (v := V1) rfl (by kernel_rfl) (by kernel_rfl) (by kernel_rfl) (fun _ _ _ h => h) (Or.inl ⟨by rfl, fun W hW => ?_⟩) (by assumption) ?_
  · (have a0 := hW.2.2.2.1; clear hW; go_simp)
  try simp only [Act.put, List.setIfInBounds_toArray, List.set_cons_zero, List.set_cons_succ]
  refine wpAnyH_take (i := 43) (oi := ⟨some 60, Op.move (Operand.tmp 1), 62, _, _, some (37, false)⟩) (v := ?vq34) rfl (by kernel_rfl) (by kernel_rfl) (by kernel_rfl) (fun _ _ _ h => h) (Or.inl ⟨by rfl, fun W hW => ?_⟩) (by assumption) ?_
  rotate_left
  · go_simp
    with_reducible rfl
  try simp only [Act.put, List.setIfInBounds_toArray, List.set_cons_zero, List.set_cons_succ]
  refine wpAnyH_take (i := 44) (oi := ⟨some 61, Op.move (Operand.tmp 5), 3, _, _, some (37, false)⟩) (v := ?vq35) rfl (by kernel_rfl) (by kernel_rfl) (by kernel_rfl) (fun _ _ _ h => h) (Or.inl ⟨by rfl, fun W hW => ?_⟩) (by assumption) ?_
  rotate_left
  · go_simp
    with_reducible rfl
  try simp only [Act.put, List.setIfInBounds_toArray, List.set_cons_zero, List.set_cons_succ]
  refine wpAnyH_take (i := 45) (oi := ⟨some 62, Op.indexAddr 62 (Operand.tmp 60) (Operand.tmp 61), 0, _, _, some (37, false)⟩) (v := ?vq36) rfl (by kernel_rfl) (by kernel_rfl) (by kernel_rfl) (fun _ _ _ h => h) (Or.inl ⟨by rfl, fun W hW => ?_⟩) (by assumption) ?_
  rotate_left
  · go_simp
    with_reducible rfl
  try simp only [Act.put, List.setIfInBounds_toArray, List.set_cons_zero, List.set_cons_succ]
  refine wpAnyH_take (i := 46) (oi := ⟨some 63, Op.fieldAddr 56 (Operand.tmp 62) 3, 0, _, _, some (37, false)⟩) (v := ?vq37) rfl (by kernel_rfl) (by kernel_rfl) (by kernel_rfl) (fun _ _ _ h => h) (Or.inl ⟨by rfl, fun W hW => ?_⟩) (by assumption) ?_
  rotate_left
  · go_simp
    with_reducible rfl
  try simp only [Act.put, List.setIfInBounds_toArray, List.set_cons_zero, List.set_cons_succ]
  refine wpAnyH_take (i := 47) (oi := ⟨some 64, Op.load 22 (Operand.tmp 63), 22, _, _, some (37, false)⟩) (v := V2) rfl (by kernel_rfl) (by kernel_rfl) (by kernel_rfl) (fun _ _ _ h => h) (Or.inl ⟨by rfl, fun W hW => ?_⟩) (by assumption) ?_
  · (have a0 := hW.2.2.2.2.2.2.2; clear hW; go_simp)
  try simp only [Act.put, List.setIfInBounds_toArray, List.set_cons_zero, List.set_cons_succ]
  refine wpAnyH_ready (rs := [48]) (by kernel_rfl) (by simp) ?_
  refine AllReadyH.cons (o := ⟨some 65, Op.call { callee := Callee.value (Operand.func 10), args := #[Operand.tmp 59, Operand.tmp 64], argTypes := #[22, 22] }, 4, _, _, some (37, false)⟩) rfl (fun KK hKK => ?_) AllReadyH.nil
  refine step_callW (by rfl) 10 _ _ rfl #[V1, V2] (by first | (simp [Act.eval]; done) | (simp [Act.eval, Act.put]; done)) (enters_of Tryz.func10 (by kernel_rfl) rfl) (HC.out _ K0) ?_
  rintro e W38 ⟨rfl, k39⟩
  refine ⟨_, rfl, ?_⟩
  have K40 : Keeps [] w W38 := K0.trans k39 (by simp)
  refine hKK.out _ _ (HS.out _ K40) (fun hHeld => ?_)
  clear hKK KK
  try simp only [Act.put, List.setIfInBounds_toArray, List.set_cons_zero, List.set_cons_succ]
  refine wpAnyH_take (i := 49) (oi := ⟨some 66, Op.unOp UnOp.not 4 (Operand.tmp 65), 4, _, _, some (37, false)⟩) (v := ?vq41) rfl (by kernel_rfl) (by kernel_rfl) (by kernel_rfl) (fun _ _ _ h => h) (Or.inl ⟨by rfl, fun W hW => ?_⟩) (by assumption) ?_
  rotate_left
  · go_simp
    with_reducible rfl
  try simp only [Act.put, List.setIfInBounds_toArray, List.set_cons_zero, List.set_cons_succ]
  refine wpAnyH_take (i := 50) (oi := ⟨some 67, Op.pick (Operand.tmp 54) (Operand.const (Value.bool true)) (Operand.tmp 66), 4, _, _, none⟩) (v := ?vq42) rfl (by kernel_rfl) (by kernel_rfl) (by kernel_rfl) (fun _ _ _ h => h) (Or.inl ⟨by rfl, fun W hW => ?_⟩) (by assumption) ?_
  rotate_left
  · go_simp
    with_reducible rfl
  try simp only [Act.put, List.setIfInBounds_toArray, List.set_cons_zero, List.set_cons_succ]
  refine wpAnyH_done (by kernel_rfl) ?_ _
  refine NoPanic.normal ?_
  exact hK _ _ _ _ _ _ _ _ _ _ _ _ _ _ _ _ _ _ _ _ _ _ _ _ _ _ _ _ _ _ _ _ _ _ _ _ _ _ _ _ _ _ _ _ _ _ _ _ _ _ _ K40
/-- Lines that are alike. -/
def Lk (w : World) (a b : LnV) : Prop := a.id = b.id ∧ a.par = b.par ∧ a.pid = b.pid ∧ ∃ it : List Int, a.n = it.length ∧ b.n = it.length ∧ AtZ w (a.b.map fun g => ⟨g, 0, none⟩) it ∧ AtZ w (b.b.map fun g => ⟨g, 0, none⟩) it
theorem Lk.keep {w w' : World} {a b : LnV} (h : Lk w a b) (k : Keeps [] w w') : Lk w' a b := by
  obtain ⟨h1, h2, h3, it, h4, h5, h6, h7⟩ := h
  exact ⟨h1, h2, h3, it, h4, h5, h6.keep k, h7.keep k⟩
set_option maxRecDepth 100000 in
set_option maxHeartbeats 3200000 in
theorem sameL_any (w : World) (A1 A2 : Option Addr) (L M : List LnV) (c1 c2 : Nat) (h1 : AtV w A1 L) (h2 : AtV w A2 M) (hl : L.length = M.length) (hk : ∀ k (h1 : k < L.length) (h2 : k < M.length), Lk w L[k] M[k]) :
    Calls Tryz.prog 40 #[.slice A1 L.length c1, .slice A2 M.length c2] w fun e w' => e = .returned (.bool true) ∧ Keeps [] w w' := by
  have hm := h1.mx
  have H1 : Hid (∀ W, Keeps [] w W → AtV W A1 L) := Lib.hid (fun W k => h1.keep k)
  have H2 : Hid (∀ W, Keeps [] w W → AtV W A2 M) := Lib.hid (fun W k => h2.keep k)
  have HK := Lib.hid hk
  obtain ⟨n, hn⟩ : ∃ n, M.length = n := ⟨_, rfl⟩
  rw [hn] at hl ⊢
  rw [hl] at hm ⊢
  have HN := Lib.hid (And.intro hn hl)
  clear h1 h2 hk hn hl
  go_enter Tryz.func40, Tryz.ntmps40
  go_wp2_with fail
  go_loopw [5] (fun iv wr => ∃ k : Nat, k ≤ n ∧ iv = .int .i64 k ∧ Keeps [] w wr) (fun iv _ => n - (intOf iv).toNat)
  case atStart => exact ⟨0, by omega, rfl, Keeps.refl _ _⟩
  case round =>
    obtain ⟨k, hk, rfl, kp⟩ := hrel
    have KP := Lib.hid kp
    clear kp
    by_cases hlt : k < n
    · have hkL : k < L.length := by rw [HN.out.2]; exact hlt
      have hkM : k < M.length := by rw [HN.out.1]; exact hlt
      obtain ⟨b1, o1, hA, -, -⟩ := (H1.out wr KP.out).at_ (by omega)
      obtain ⟨b2, o2, hB, -, -⟩ := (H2.out wr KP.out).at_ (by omega)
      subst hA hB
      obtain ⟨e1, e2, e3, it, e4, e5, e6, e7⟩ := (HK.out k hkL hkM).keep KP.out
      go_upto_region 6 with fail
      refine sameL6_any wr b1 o1 b2 o2 n c1 c2 k L[k].id L[k].par L[k].pid (.slice (L[k].b.map fun g => ⟨g, 0, none⟩) L[k].n L[k].c) (.slice (M[k].b.map fun g => ⟨g, 0, none⟩) M[k].n M[k].c) _ hlt (fun W kW => ?_) (fun W kW => ?_) _ _ _ _ _ _ _ _ _ _ _ _ _ _ _ _ _ _ _ _ _ _ _ _ _ _ _ _ _ _ _ _ _ _ _ _ _ _ _ _ _ _ _ _ _ _ _ _ _ _ _ _ _ _ _ _ _ _ _ _ _ _ _ _ _ ?_
      · obtain ⟨b1', o1', hA, -, hc⟩ := (H1.out W (KP.out.trans kW (by simp))).at_ (by omega)
        obtain ⟨b2', o2', hB, -, hd⟩ := (H2.out W (KP.out.trans kW (by simp))).at_ (by omega)
        simp only [Option.some.injEq, Addr.mk.injEq, and_true] at hA hB
        obtain ⟨rfl, rfl⟩ := hA
        obtain ⟨rfl, rfl⟩ := hB
        obtain ⟨x0, x1, x2, x3⟩ := hc k hkL
        obtain ⟨y0, y1, y2, y3⟩ := hd k hkM
        rw [e1, e2, e3] at *
        exact ⟨x0, x1, x2, x3, y0, y1, y2, y3⟩
      · have := sameInts_any W _ _ it it L[k].c M[k].c (e6.keep kW) (e7.keep kW)
        rw [e4, e5]
        refine this.mono ?_
        rintro e w' ⟨rfl, h⟩
        exact ⟨by simp, h⟩
      intro v17 v18 v19 v20 v21 v22 v23 v24 v25 v26 v27 v28 v29 v30 v31 v32 v33 v34 v35 v36 v37 v38 v39 v40 v41 v42 v43 v44 v45 v46 v47 v48 v49 v50 v51 v52 v53 v54 v55 v56 v57 v58 v59 v60 v61 v62 v63 v64 v65 v66 W kW
      have KW : Hid (Keeps [] w W) := Lib.hid (KP.out.trans kW (by simp))
      clear kW e1 e2 e3 e4 e5 e6 e7
      go_wp2_with fail
      go_roundw
      case rel => exact ⟨k + 1, by omega, by go_num, KW.out⟩
      case measure => simp [intOf]; omega
    · obtain rfl : k = n := by omega
      go_wp2_with fail
      go_ret
      exact ⟨rfl, KP.out⟩
end Go.Proofs.YtcopjjokhjealaaGreat
