/- Texts of the elder seat, turned to this one: W34 W35. -/
import Derived.Test.YtbllmpcpfmlemaaGreatMQ
namespace Go.Proofs.YtbllmpcpfmlemaaGreat
open Go.RowKit

noncomputable def copy6C : Code := ((Tryz.f33.body.bind (theRegion 6)).getD .skip)
set_option maxRecDepth 1000000 in
set_option maxHeartbeats 1600000 in
set_option linter.unusedSimpArgs false in
theorem copy6_any (w : World) (xb nk mw ml n cc mv mq nw nl nv nq : Nat) (pq : Value) (A : Option Addr) (xs : List Value) (sl : Str → SlV) (fw fl fv : Str → Option Str) (fq : Str → Option SlV) (K : Exit → Act → World → Prop)
    (hS : ∀ W, Keeps [] w W → Blk W xb 77 #[pq, .int .i64 nk, .map (some mw), .map (some ml), .slice A n cc, .map (some mv), .map (some mq)])
    (hW0 : ∀ W, Keeps [] w W → GMap kS eS W mw nw fw) (hL : ∀ W, Keeps [] w W → GMap kS eS W ml nl fl) (hV : ∀ W, Keeps [] w W → GMap kS eS W mv nv fv) (hQ : ∀ W, Keeps [] w W → GMap kS eL W mq nq fq)
    (hO : ∀ W, Keeps [] w W → W.ownsRow 0 34 4 (.slice A n cc) n xs) (h1 : ∀ u ∈ xs, u.oneCell' = true) (hn : n ≤ 2000000)
    (u0 u1 u2 u3 u4 u5 u7 u8 u9 u10 u11 u12 u13 u14 u15 u16 u17 u18 u19 u20 u21 u22 u23 u24 u25 u26 u27 u28 u29 u30 u31 u32 u33 u34 u35 u36 u37 u38 u39 u40 u41 u42 u43 u44 u45 u46 u47 u48 u49 u50 u51 u52 u53 u54 u55 u56 u57 u58 u59 u60 u61 u62 u63 u64 u65 u66 u67 u68 u69 u70 u71 u72 u73 u74 u75 u76 u77 u78 u79 u80 : Value)
    (hK : ∀ (v24 v25 v26 v27 v28 v29 v30 v31 v32 v33 v34 v35 v36 v37 v38 v39 v40 v41 v42 v43 v44 v45 v46 v47 v48 v49 v50 v51 v52 v53 v54 : Value) (M : Mem) (W : World), Blk W M.b 77 #[.pointer none, .int .i64 nk, .map (some M.mw), .map (some M.ml), M.row, .map (some M.mv), .map (some M.mq)] → GMap kS eS W M.mw nw fw → GMap kS eS W M.ml nl fl → W.ownsRow 0 34 4 M.row n xs → GMap kS eS W M.mv nv fv → GMap kS eL W M.mq nq fq → Keeps [] w W → (M.mw ≠ M.ml ∧ M.mw ≠ M.mv ∧ M.ml ≠ M.mv ∧ M.mw ≠ M.mq ∧ M.ml ≠ M.mq ∧ M.mv ≠ M.mq) → (∀ g ∈ M.blocks, w.heap.size ≤ g) → M.sl = sl → K .normal ⟨#[u0, u1, u2, u3, u4, u5, .pointer (some ⟨xb, 0, none⟩), .pointer (some ⟨M.b, 0, none⟩), u8, u9, u10, u11, u12, u13, u14, u15, u16, u17, u18, u19, u20, u21, u22, u23, v24, v25, v26, v27, v28, v29, v30, v31, v32, v33, v34, v35, v36, v37, v38, v39, v40, v41, v42, v43, v44, v45, v46, v47, v48, v49, v50, v51, v52, v53, v54, u55, u56, u57, u58, u59, u60, u61, u62, u63, u64, u65, u66, u67, u68, u69, u70, u71, u72, u73, u74, u75, u76, u77, u78, u79, u80], []⟩ W) :
    Code.wp Tryz.prog copy6C K ⟨#[u0, u1, u2, u3, u4, u5, .pointer (some ⟨xb, 0, none⟩), u7, u8, u9, u10, u11, u12, u13, u14, u15, u16, u17, u18, u19, u20, u21, u22, u23, u24, u25, u26, u27, u28, u29, u30, u31, u32, u33, u34, u35, u36, u37, u38, u39, u40, u41, u42, u43, u44, u45, u46, u47, u48, u49, u50, u51, u52, u53, u54, u55, u56, u57, u58, u59, u60, u61, u62, u63, u64, u65, u66, u67, u68, u69, u70, u71, u72, u73, u74, u75, u76, u77, u78, u79, u80], []⟩ w := by
  have HS := Lib.hid hS
  have HW := Lib.hid hW0
  have HL := Lib.hid hL
  have HV := Lib.hid hV
  have HQ := Lib.hid hQ
  have HO := Lib.hid hO
  clear hS hW0 hL hV hQ hO
  conv => arg 2; whnf
  try dsimp only at hK ⊢
  refine wp_region_noPanic ?_
  refine wp_region_held_drew (S := fun W => Blk W xb 77 #[pq, .int .i64 nk, .map (some mw), .map (some ml), .slice A n cc, .map (some mv), .map (some mq)]) (by kernel_rfl) (HS.out _ ((Keeps.refl [] w).drew)) (fun hHeld => ?_)
  obtain ⟨w0, hw0⟩ : ∃ w0, w.drew = w0 := ⟨_, rfl⟩
  try rw [hw0] at hHeld
  rw [hw0]
  have K0 : Keeps [] w w0 := by rw [← hw0]; exact (Keeps.refl [] w).drew
  clear hw0
  refine wpAnyH_take (i := 0) (oi := ⟨some 24, Op.move (Operand.tmp 6), 61, _, _, none⟩) (v := ?vq1) rfl (by kernel_rfl) (by kernel_rfl) (by kernel_rfl) (fun _ _ _ h => h) (Or.inl ⟨by rfl, fun W hW => ?_⟩) (by assumption) ?_
  rotate_left
  · go_simp
    with_reducible rfl
  try simp only [Act.put, List.setIfInBounds_toArray, List.set_cons_zero, List.set_cons_succ]
  refine wpAnyH_take (i := 1) (oi := ⟨some 25, Op.nilCheck (Operand.tmp 24), 0, _, _, none⟩) (v := ?vq2) rfl (by kernel_rfl) (by kernel_rfl) (by kernel_rfl) (fun _ _ _ h => h) (Or.inl ⟨by rfl, fun W hW => ?_⟩) (by assumption) ?_
  rotate_left
  · go_simp
    with_reducible rfl
  try simp only [Act.put, List.setIfInBounds_toArray, List.set_cons_zero, List.set_cons_succ]
  refine wpAnyH_take (i := 2) (oi := ⟨some 26, Op.fieldAddr 77 (Operand.tmp 25) 1, 0, _, _, none⟩) (v := ?vq3) rfl (by kernel_rfl) (by kernel_rfl) (by kernel_rfl) (fun _ _ _ h => h) (Or.inl ⟨by rfl, fun W hW => ?_⟩) (by assumption) ?_
  rotate_left
  · go_simp
    with_reducible rfl
  try simp only [Act.put, List.setIfInBounds_toArray, List.set_cons_zero, List.set_cons_succ]
  refine wpAnyH_take (i := 3) (oi := ⟨some 27, Op.load 3 (Operand.tmp 26), 3, _, _, none⟩) (v := .int .i64 nk) rfl (by kernel_rfl) (by kernel_rfl) (by kernel_rfl) (fun _ _ _ h => h) (Or.inl ⟨by rfl, fun W hW => ?_⟩) (by assumption) ?_
  · (have a0 := hW.cell 1; clear hW; go_simp)
  try simp only [Act.put, List.setIfInBounds_toArray, List.set_cons_zero, List.set_cons_succ]
  refine wpAnyH_take (i := 4) (oi := ⟨some 28, Op.move (Operand.tmp 6), 61, _, _, none⟩) (v := ?vq4) rfl (by kernel_rfl) (by kernel_rfl) (by kernel_rfl) (fun _ _ _ h => h) (Or.inl ⟨by rfl, fun W hW => ?_⟩) (by assumption) ?_
  rotate_left
  · go_simp
    with_reducible rfl
  try simp only [Act.put, List.setIfInBounds_toArray, List.set_cons_zero, List.set_cons_succ]
  refine wpAnyH_take (i := 5) (oi := ⟨some 29, Op.nilCheck (Operand.tmp 28), 0, _, _, none⟩) (v := ?vq5) rfl (by kernel_rfl) (by kernel_rfl) (by kernel_rfl) (fun _ _ _ h => h) (Or.inl ⟨by rfl, fun W hW => ?_⟩) (by assumption) ?_
  rotate_left
  · go_simp
    with_reducible rfl
  try simp only [Act.put, List.setIfInBounds_toArray, List.set_cons_zero, List.set_cons_succ]
  refine wpAnyH_take (i := 6) (oi := ⟨some 30, Op.fieldAddr 77 (Operand.tmp 29) 2, 0, _, _, none⟩) (v := ?vq6) rfl (by kernel_rfl) (by kernel_rfl) (by kernel_rfl) (fun _ _ _ h => h) (Or.inl ⟨by rfl, fun W hW => ?_⟩) (by assumption) ?_
  rotate_left
  · go_simp
    with_reducible rfl
  try simp only [Act.put, List.setIfInBounds_toArray, List.set_cons_zero, List.set_cons_succ]
  refine wpAnyH_take (i := 7) (oi := ⟨some 31, Op.load 74 (Operand.tmp 30), 74, _, _, none⟩) (v := .map (some mw)) rfl (by kernel_rfl) (by kernel_rfl) (by kernel_rfl) (fun _ _ _ h => h) (Or.inl ⟨by rfl, fun W hW => ?_⟩) (by assumption) ?_
  · (have a0 := hW.cell 2; clear hW; go_simp)
  try simp only [Act.put, List.setIfInBounds_toArray, List.set_cons_zero, List.set_cons_succ]
  refine wpAnyH_take (i := 9) (oi := ⟨some 33, Op.move (Operand.tmp 6), 61, _, _, none⟩) (v := ?vq7) rfl (by kernel_rfl) (by kernel_rfl) (by kernel_rfl) (fun _ _ _ h => h) (Or.inl ⟨by rfl, fun W hW => ?_⟩) (by assumption) ?_
  rotate_left
  · go_simp
    with_reducible rfl
  try simp only [Act.put, List.setIfInBounds_toArray, List.set_cons_zero, List.set_cons_succ]
  refine wpAnyH_take (i := 10) (oi := ⟨some 34, Op.nilCheck (Operand.tmp 33), 0, _, _, none⟩) (v := ?vq8) rfl (by kernel_rfl) (by kernel_rfl) (by kernel_rfl) (fun _ _ _ h => h) (Or.inl ⟨by rfl, fun W hW => ?_⟩) (by assumption) ?_
  rotate_left
  · go_simp
    with_reducible rfl
  try simp only [Act.put, List.setIfInBounds_toArray, List.set_cons_zero, List.set_cons_succ]
  refine wpAnyH_take (i := 11) (oi := ⟨some 35, Op.fieldAddr 77 (Operand.tmp 34) 3, 0, _, _, none⟩) (v := ?vq9) rfl (by kernel_rfl) (by kernel_rfl) (by kernel_rfl) (fun _ _ _ h => h) (Or.inl ⟨by rfl, fun W hW => ?_⟩) (by assumption) ?_
  rotate_left
  · go_simp
    with_reducible rfl
  try simp only [Act.put, List.setIfInBounds_toArray, List.set_cons_zero, List.set_cons_succ]
  refine wpAnyH_take (i := 12) (oi := ⟨some 36, Op.load 74 (Operand.tmp 35), 74, _, _, none⟩) (v := .map (some ml)) rfl (by kernel_rfl) (by kernel_rfl) (by kernel_rfl) (fun _ _ _ h => h) (Or.inl ⟨by rfl, fun W hW => ?_⟩) (by assumption) ?_
  · (have a0 := hW.cell 3; clear hW; go_simp)
  try simp only [Act.put, List.setIfInBounds_toArray, List.set_cons_zero, List.set_cons_succ]
  refine wpAnyH_take (i := 14) (oi := ⟨some 38, Op.move (Operand.tmp 6), 61, _, _, none⟩) (v := ?vq10) rfl (by kernel_rfl) (by kernel_rfl) (by kernel_rfl) (fun _ _ _ h => h) (Or.inl ⟨by rfl, fun W hW => ?_⟩) (by assumption) ?_
  rotate_left
  · go_simp
    with_reducible rfl
  try simp only [Act.put, List.setIfInBounds_toArray, List.set_cons_zero, List.set_cons_succ]
  refine wpAnyH_take (i := 15) (oi := ⟨some 39, Op.nilCheck (Operand.tmp 38), 0, _, _, none⟩) (v := ?vq11) rfl (by kernel_rfl) (by kernel_rfl) (by kernel_rfl) (fun _ _ _ h => h) (Or.inl ⟨by rfl, fun W hW => ?_⟩) (by assumption) ?_
  rotate_left
  · go_simp
    with_reducible rfl
  try simp only [Act.put, List.setIfInBounds_toArray, List.set_cons_zero, List.set_cons_succ]
  refine wpAnyH_take (i := 16) (oi := ⟨some 40, Op.fieldAddr 77 (Operand.tmp 39) 4, 0, _, _, none⟩) (v := ?vq12) rfl (by kernel_rfl) (by kernel_rfl) (by kernel_rfl) (fun _ _ _ h => h) (Or.inl ⟨by rfl, fun W hW => ?_⟩) (by assumption) ?_
  rotate_left
  · go_simp
    with_reducible rfl
  try simp only [Act.put, List.setIfInBounds_toArray, List.set_cons_zero, List.set_cons_succ]
  refine wpAnyH_take (i := 17) (oi := ⟨some 41, Op.load 50 (Operand.tmp 40), 50, _, _, none⟩) (v := .slice A n cc) rfl (by kernel_rfl) (by kernel_rfl) (by kernel_rfl) (fun _ _ _ h => h) (Or.inl ⟨by rfl, fun W hW => ?_⟩) (by assumption) ?_
  · (have a0 := hW.cell 4; clear hW; go_simp)
  try simp only [Act.put, List.setIfInBounds_toArray, List.set_cons_zero, List.set_cons_succ]
  refine wpAnyH_take (i := 19) (oi := ⟨some 43, Op.move (Operand.tmp 6), 61, _, _, none⟩) (v := ?vq13) rfl (by kernel_rfl) (by kernel_rfl) (by kernel_rfl) (fun _ _ _ h => h) (Or.inl ⟨by rfl, fun W hW => ?_⟩) (by assumption) ?_
  rotate_left
  · go_simp
    with_reducible rfl
  try simp only [Act.put, List.setIfInBounds_toArray, List.set_cons_zero, List.set_cons_succ]
  refine wpAnyH_take (i := 20) (oi := ⟨some 44, Op.nilCheck (Operand.tmp 43), 0, _, _, none⟩) (v := ?vq14) rfl (by kernel_rfl) (by kernel_rfl) (by kernel_rfl) (fun _ _ _ h => h) (Or.inl ⟨by rfl, fun W hW => ?_⟩) (by assumption) ?_
  rotate_left
  · go_simp
    with_reducible rfl
  try simp only [Act.put, List.setIfInBounds_toArray, List.set_cons_zero, List.set_cons_succ]
  refine wpAnyH_take (i := 21) (oi := ⟨some 45, Op.fieldAddr 77 (Operand.tmp 44) 5, 0, _, _, none⟩) (v := ?vq15) rfl (by kernel_rfl) (by kernel_rfl) (by kernel_rfl) (fun _ _ _ h => h) (Or.inl ⟨by rfl, fun W hW => ?_⟩) (by assumption) ?_
  rotate_left
  · go_simp
    with_reducible rfl
  try simp only [Act.put, List.setIfInBounds_toArray, List.set_cons_zero, List.set_cons_succ]
  refine wpAnyH_take (i := 22) (oi := ⟨some 46, Op.load 74 (Operand.tmp 45), 74, _, _, none⟩) (v := .map (some mv)) rfl (by kernel_rfl) (by kernel_rfl) (by kernel_rfl) (fun _ _ _ h => h) (Or.inl ⟨by rfl, fun W hW => ?_⟩) (by assumption) ?_
  · (have a0 := hW.cell 5; clear hW; go_simp)
  try simp only [Act.put, List.setIfInBounds_toArray, List.set_cons_zero, List.set_cons_succ]
  refine wpAnyH_take (i := 24) (oi := ⟨some 48, Op.move (Operand.tmp 6), 61, _, _, none⟩) (v := ?vq16) rfl (by kernel_rfl) (by kernel_rfl) (by kernel_rfl) (fun _ _ _ h => h) (Or.inl ⟨by rfl, fun W hW => ?_⟩) (by assumption) ?_
  rotate_left
  · go_simp
    with_reducible rfl
  try simp only [Act.put, List.setIfInBounds_toArray, List.set_cons_zero, List.set_cons_succ]
  refine wpAnyH_take (i := 25) (oi := ⟨some 49, Op.nilCheck (Operand.tmp 48), 0, _, _, none⟩) (v := ?vq17) rfl (by kernel_rfl) (by kernel_rfl) (by kernel_rfl) (fun _ _ _ h => h) (Or.inl ⟨by rfl, fun W hW => ?_⟩) (by assumption) ?_
  rotate_left
  · go_simp
    with_reducible rfl
  try simp only [Act.put, List.setIfInBounds_toArray, List.set_cons_zero, List.set_cons_succ]
  refine wpAnyH_take (i := 26) (oi := ⟨some 50, Op.fieldAddr 77 (Operand.tmp 49) 6, 0, _, _, none⟩) (v := ?vq18) rfl (by kernel_rfl) (by kernel_rfl) (by kernel_rfl) (fun _ _ _ h => h) (Or.inl ⟨by rfl, fun W hW => ?_⟩) (by assumption) ?_
  rotate_left
  · go_simp
    with_reducible rfl
  try simp only [Act.put, List.setIfInBounds_toArray, List.set_cons_zero, List.set_cons_succ]
  refine wpAnyH_take (i := 27) (oi := ⟨some 51, Op.load 75 (Operand.tmp 50), 75, _, _, none⟩) (v := .map (some mq)) rfl (by kernel_rfl) (by kernel_rfl) (by kernel_rfl) (fun _ _ _ h => h) (Or.inl ⟨by rfl, fun W hW => ?_⟩) (by assumption) ?_
  · (have a0 := hW.cell 6; clear hW; go_simp)
  try simp only [Act.put, List.setIfInBounds_toArray, List.set_cons_zero, List.set_cons_succ]
  refine wpAnyH_ready (rs := [8]) (by kernel_rfl) (by simp) ?_
  refine AllReadyH.cons (o := ⟨some 32, Op.call { callee := Callee.value (Operand.func 73), args := #[Operand.tmp 31], argTypes := #[74] }, 74, _, _, none⟩) rfl (fun KK hKK => ?_) AllReadyH.nil
  have hc26 := cloneMS_any w0 mw nw fw (HW.out _ K0)
  obtain ⟨b24, e25⟩ : ∃ b, w0.heap.size = b := ⟨_, rfl⟩
  rw [e25] at hc26
  have ge23 : w.heap.size ≤ b24 := by have := K0.size; omega
  refine step_callW (by rfl) 73 _ _ rfl #[.map (some mw)] (by first | (simp [Act.eval]; done) | (simp [Act.eval, Act.put]; done)) (enters_of Tryz.func73 (by kernel_rfl) rfl) hc26 ?_
  rintro e W19 ⟨rfl, fa22, k21, -⟩
  refine ⟨_, rfl, ?_⟩
  have K20 : Keeps [] w W19 := K0.trans k21 (by simp)
  refine hKK.out _ _ (HS.out _ K20) (fun hHeld => ?_)
  clear hKK KK e25 hc26
  try simp only [Act.put, List.setIfInBounds_toArray, List.set_cons_zero, List.set_cons_succ]
  refine wpAnyH_ready (rs := [13]) (by kernel_rfl) (by simp) ?_
  refine AllReadyH.cons (o := ⟨some 37, Op.call { callee := Callee.value (Operand.func 73), args := #[Operand.tmp 36], argTypes := #[74] }, 74, _, _, none⟩) rfl (fun KK hKK => ?_) AllReadyH.nil
  have hc34 := cloneMS_any W19 ml nl fl (HL.out _ K20)
  obtain ⟨b32, e33⟩ : ∃ b, W19.heap.size = b := ⟨_, rfl⟩
  rw [e33] at hc34
  have ge31 : w.heap.size ≤ b32 := by have := K20.size; omega
  have ne35 : b24 ≠ b32 := by have := fa22.lt; omega
  refine step_callW (by rfl) 73 _ _ rfl #[.map (some ml)] (by first | (simp [Act.eval]; done) | (simp [Act.eval, Act.put]; done)) (enters_of Tryz.func73 (by kernel_rfl) rfl) hc34 ?_
  rintro e W27 ⟨rfl, fa30, k29, -⟩
  refine ⟨_, rfl, ?_⟩
  have K28 : Keeps [] w W27 := K20.trans k29 (by simp)
  have fa36 := fa22.keep k29 (by simp)
  refine hKK.out _ _ (HS.out _ K28) (fun hHeld => ?_)
  clear hKK KK e33 hc34
  try simp only [Act.put, List.setIfInBounds_toArray, List.set_cons_zero, List.set_cons_succ]
  refine wpAnyH_ready (rs := [18]) (by kernel_rfl) (by simp) ?_
  refine AllReadyH.cons (o := ⟨some 42, Op.call { callee := Callee.value (Operand.func 71), args := #[Operand.tmp 41], argTypes := #[50] }, 50, _, _, none⟩) rfl (fun KK hKK => ?_) AllReadyH.nil
  refine step_callW (by rfl) 71 _ _ rfl #[.slice A n cc] (by first | (simp [Act.eval]; done) | (simp [Act.eval, Act.put]; done)) (enters_of Tryz.func71 (by kernel_rfl) rfl) (cloneR_any _ A n cc xs (HO.out _ K28) h1 hn) ?_
  rintro e W37 ⟨v42, rfl, fa40, k39, f43⟩
  refine ⟨_, rfl, ?_⟩
  have ge41 : ∀ g ∈ fp v42, w.heap.size ≤ g := fun g hg => Nat.le_trans K28.size (f43 g hg)
  have ne46 : ∀ g ∈ fp v42, b24 ≠ g := fun g hg e => by have := fa36.lt; have := f43 g hg; omega
  have ne47 : ∀ g ∈ fp v42, b32 ≠ g := fun g hg e => by have := fa30.lt; have := f43 g hg; omega
  obtain ⟨A44, c45, rfl, -, -, -⟩ := own_shape fa40
  have K38 : Keeps [] w W37 := K28.trans k39 (by simp)
  have fa48 := fa36.keep k39 (by simp)
  have fa49 := fa30.keep k39 (by simp)
  refine hKK.out _ _ (HS.out _ K38) (fun hHeld => ?_)
  clear hKK KK
  try simp only [Act.put, List.setIfInBounds_toArray, List.set_cons_zero, List.set_cons_succ]
  refine wpAnyH_ready (rs := [23]) (by kernel_rfl) (by simp) ?_
  refine AllReadyH.cons (o := ⟨some 47, Op.call { callee := Callee.value (Operand.func 73), args := #[Operand.tmp 46], argTypes := #[74] }, 74, _, _, none⟩) rfl (fun KK hKK => ?_) AllReadyH.nil
  have hc57 := cloneMS_any W37 mv nv fv (HV.out _ K38)
  obtain ⟨b55, e56⟩ : ∃ b, W37.heap.size = b := ⟨_, rfl⟩
  rw [e56] at hc57
  have ge54 : w.heap.size ≤ b55 := by have := K38.size; omega
  have ne58 : b24 ≠ b55 := by have := fa48.lt; omega
  have ne59 : b32 ≠ b55 := by have := fa49.lt; omega
  refine step_callW (by rfl) 73 _ _ rfl #[.map (some mv)] (by first | (simp [Act.eval]; done) | (simp [Act.eval, Act.put]; done)) (enters_of Tryz.func73 (by kernel_rfl) rfl) hc57 ?_
  rintro e W50 ⟨rfl, fa53, k52, -⟩
  refine ⟨_, rfl, ?_⟩
  have K51 : Keeps [] w W50 := K38.trans k52 (by simp)
  have fa60 := fa48.keep k52 (by simp)
  have fa61 := fa49.keep k52 (by simp)
  have fa62 := own_keep fa40 k52 (by simp)
  refine hKK.out _ _ (HS.out _ K51) (fun hHeld => ?_)
  clear hKK KK e56 hc57
  try simp only [Act.put, List.setIfInBounds_toArray, List.set_cons_zero, List.set_cons_succ]
  refine wpAnyH_ready (rs := [28]) (by kernel_rfl) (by simp) ?_
  refine AllReadyH.cons (o := ⟨some 52, Op.call { callee := Callee.value (Operand.func 74), args := #[Operand.tmp 51], argTypes := #[75] }, 75, _, _, none⟩) rfl (fun KK hKK => ?_) AllReadyH.nil
  have hc70 := cloneML_any W50 mq nq fq (HQ.out _ K51)
  obtain ⟨b68, e69⟩ : ∃ b, W50.heap.size = b := ⟨_, rfl⟩
  rw [e69] at hc70
  have ge67 : w.heap.size ≤ b68 := by have := K51.size; omega
  have ne71 : b24 ≠ b68 := by have := fa60.lt; omega
  have ne72 : b32 ≠ b68 := by have := fa61.lt; omega
  have ne73 : b55 ≠ b68 := by have := fa53.lt; omega
  refine step_callW (by rfl) 74 _ _ rfl #[.map (some mq)] (by first | (simp [Act.eval]; done) | (simp [Act.eval, Act.put]; done)) (enters_of Tryz.func74 (by kernel_rfl) rfl) hc70 ?_
  rintro e W63 ⟨rfl, fa66, k65, -⟩
  refine ⟨_, rfl, ?_⟩
  have K64 : Keeps [] w W63 := K51.trans k65 (by simp)
  have fa74 := fa60.keep k65 (by simp)
  have fa75 := fa61.keep k65 (by simp)
  have fa76 := own_keep fa62 k65 (by simp)
  have fa77 := fa53.keep k65 (by simp)
  refine hKK.out _ _ (HS.out _ K64) (fun hHeld => ?_)
  clear hKK KK e69 hc70
  try simp only [Act.put, List.setIfInBounds_toArray, List.set_cons_zero, List.set_cons_succ]
  refine wpAnyH_take (i := 29) (oi := ⟨some 53, Op.build 77 #[(1, Operand.tmp 27), (2, Operand.tmp 32), (3, Operand.tmp 37), (4, Operand.tmp 42), (5, Operand.tmp 47), (6, Operand.tmp 52)], 77, _, _, none⟩) (v := .agg #[.pointer none, .int .i64 nk, .map (some b24), .map (some b32), .slice A44 n c45, .map (some b55), .map (some b68)]) rfl (by kernel_rfl) (by kernel_rfl) (by kernel_rfl) (fun _ _ _ h => h) (Or.inl ⟨by rfl, fun W hW => ?_⟩) (by assumption) ?_
  · go_simp
  try simp only [Act.put, List.setIfInBounds_toArray, List.set_cons_zero, List.set_cons_succ]
  refine wpAnyH_ready (rs := [30]) (by kernel_rfl) (by simp) ?_
  refine AllReadyH.cons (o := ⟨some 54, Op.box 77 (Operand.tmp 53), 61, _, _, none⟩) rfl (fun KK hKK => ?_) AllReadyH.nil
  go_simp
  obtain ⟨b79, f81⟩ : ∃ b, W63.heap.size = b := ⟨_, rfl⟩
  rw [f81]
  obtain ⟨W78, e80⟩ : ∃ W, World.alloc W63 (.cells #[.pointer none, .int .i64 nk, .map (some b24), .map (some b32), .slice A44 n c45, .map (some b55), .map (some b68)] 77) = W := ⟨_, rfl⟩
  rw [e80]
  have kk82 : Keeps [] W63 W78 := by rw [← e80]; exact (Keeps.refl [] _).alloc _
  have K83 : Keeps [] w W78 := K64.trans kk82 (by simp)
  have ob84 : Blk W78 b79 77 #[.pointer none, .int .i64 nk, .map (some b24), .map (some b32), .slice A44 n c45, .map (some b55), .map (some b68)] := by rw [← e80, ← f81]; exact Blk.new _ _ _
  have ge85 : w.heap.size ≤ b79 := by have := K64.size; omega
  have fa86 := fa74.keep kk82 (by simp)
  have fa87 := fa75.keep kk82 (by simp)
  have fa88 := own_keep fa76 kk82 (by simp)
  have fa89 := fa77.keep kk82 (by simp)
  have fa90 := fa66.keep kk82 (by simp)
  refine hKK.out _ _ (HS.out _ K83) (fun hHeld => ?_)
  clear hKK KK e80 f81
  try simp only [Act.put, List.setIfInBounds_toArray, List.set_cons_zero, List.set_cons_succ]
  refine wpAnyH_take (i := 31) (oi := ⟨some 7, Op.assign (Operand.tmp 54), 61, _, _, none⟩) (v := ?vq91) rfl (by kernel_rfl) (by kernel_rfl) (by kernel_rfl) (fun _ _ _ h => h) (Or.inl ⟨by rfl, fun W hW => ?_⟩) (by assumption) ?_
  rotate_left
  · go_simp
    with_reducible rfl
  try simp only [Act.put, List.setIfInBounds_toArray, List.set_cons_zero, List.set_cons_succ]
  refine wpAnyH_done (by kernel_rfl) ?_ _
  refine NoPanic.normal ?_
  exact hK _ _ _ _ _ _ _ _ _ _ _ _ _ _ _ _ _ _ _ _ _ _ _ _ _ _ _ _ _ _ _ ⟨b79, b24, b32, .slice A44 n c45, b55, b68, sl⟩ _ ob84 fa86 fa87 fa88 fa89 fa90 K83 ⟨ne35, ne58, ne59, ne71, ne72, ne73⟩ (fun g hg => by
    simp only [Mem.blocks, List.mem_cons] at hg
    rcases hg with rfl | rfl | rfl | rfl | rfl | hg
    · exact ge85
    · exact ge23
    · exact ge31
    · exact ge54
    · exact ge67
    · exact ge41 g hg) rfl
end Go.Proofs.YtbllmpcpfmlemaaGreat
namespace Go.Proofs.YtbllmpcpfmlemaaGreat
open Go.RowKit

open Classical in
/-- A copy that is being made: those that are left are not there yet. -/
structure Half (w0 w : World) (Mo : Int → Mem) (C : St) (c2 m2 n : Nat) (N : Int → Mem) (L2 : Nat → Option (Int × Nat)) (F2 : List Nat) (left : Int → Prop) (par : One → Option Nat) : Prop where
  cb : Blk w c2 65 #[.map (some m2)]
  all : GMap kI eP w m2 n (fun i => if has C i = true ∧ ¬ left i then some (N i).b else none)
  one : ∀ z ∈ C, ¬ left z.id → OneAt w (N z.id) (par z) (kids C z.id) z
  lab : ∀ z ∈ C, ¬ left z.id → Lab L2 z.id (N z.id)
  lc : L2 c2 = some (0, 6)
  lm : L2 m2 = some (0, 7)
  inF : ∀ g, (L2 g).isSome = true → g ∈ F2
  ltF : ∀ g ∈ F2, g < w.heap.size
  new : ∀ g ∈ F2, w0.heap.size ≤ g
  sl : ∀ z ∈ C, ¬ left z.id → (N z.id).sl = (Mo z.id).sl
section
variable {w0 w w' : World} {c m : Nat} {Mo : Int → Mem} {L : Nat → Option (Int × Nat)} {F G : List Nat} {C : St} {c2 m2 n : Nat} {N : Int → Mem} {L2 : Nat → Option (Int × Nat)} {F2 : List Nat} {left : Int → Prop} {par : One → Option Nat}
theorem Half.cF (h : Half w0 w Mo C c2 m2 n N L2 F2 left par) : c2 ∈ F2 := h.inF c2 (by rw [h.lc]; rfl)
theorem Half.mF (h : Half w0 w Mo C c2 m2 n N L2 F2 left par) : m2 ∈ F2 := h.inF m2 (by rw [h.lm]; rfl)
theorem Half.blkF (h : Half w0 w Mo C c2 m2 n N L2 F2 left par) {z : One} (hz : z ∈ C) (hl : ¬ left z.id) {g : Nat} (hg : g ∈ (N z.id).blocks) : g ∈ F2 := by
  obtain ⟨k, _, e⟩ := (h.lab z hz hl).all g hg
  exact h.inF g (by rw [e]; rfl)
theorem Half.rowsOld (hr : RepM w0 c m Mo L F G C) (h : Half w0 w Mo C c2 m2 n N L2 F2 left par) {z : One} (hz : z ∈ C) (hl : ¬ left z.id) {p : Str} {l : List Str} (hp : Rd.keys p l ∈ z.rd) : ∀ g ∈ fp ((N z.id).sl p).v, g ∈ G ∧ g < w0.heap.size := by
  intro g hg
  rw [h.sl z hz hl] at hg
  have := hr.inG z hz p l hp g hg
  exact ⟨this, hr.ltG g this⟩
theorem Half.keep (hr : RepM w0 c m Mo L F G C) {K : List Nat} (h : Half w0 w Mo C c2 m2 n N L2 F2 left par) (hk : Keeps K w w') (hF : ∀ g ∈ K, g ∉ F2) (hK : ∀ g ∈ K, w0.heap.size ≤ g) : Half w0 w' Mo C c2 m2 n N L2 F2 left par where
  cb := h.cb.keep hk (fun hc => hF _ hc h.cF)
  all := h.all.keep hk (fun hc => hF _ hc h.mF)
  one := fun z hz hl => (h.one z hz hl).keep hk (fun g hg hgK => hF g hgK (h.blkF hz hl hg)) (fun p l hp g hg hgK => by have := (h.rowsOld hr hz hl hp g hg).2; have := hK g hgK; omega)
  lab := h.lab
  lc := h.lc
  lm := h.lm
  inF := h.inF
  ltF := fun g hg => Nat.lt_of_lt_of_le (h.ltF g hg) hk.size
  new := h.new
  sl := h.sl
open Classical in
/-- One more. -/
theorem Half.add (hr : RepM w0 c m Mo L F G C) (hT : Tree C) (h : Half w0 w Mo C c2 m2 n N L2 F2 left (fun _ => none)) {i : Int} {x : One} (hx : find C i = some x) {M : Mem} (hk : Keeps [m2] w w')
    (hM : OneAt w' M none (kids C i) x) (hsl : M.sl = (Mo i).sl) (hb : ∀ g ∈ M.blocks, g ∉ F2 ∧ w0.heap.size ≤ g ∧ g < w'.heap.size) (hne : M.mw ≠ M.ml ∧ M.mw ≠ M.mv ∧ M.ml ≠ M.mv ∧ M.mw ≠ M.mq ∧ M.ml ≠ M.mq ∧ M.mv ≠ M.mq)
    (hall : GMap kI eP w' m2 (n + 1) (updG (fun i => if has C i = true ∧ ¬ left i then some (N i).b else none) i (some M.b))) :
    ∃ L2', Half w0 w' Mo C c2 m2 (n + 1) (fun j => if j = i then M else N j) L2' (M.blocks ++ F2) (fun j => left j ∧ j ≠ i) (fun _ => none) := by
  obtain ⟨hxC, hxi⟩ := find_mem hx
  let L' : Nat → Option (Int × Nat) := fun g => if g = M.b then some (i, 0) else if g = M.mw then some (i, 1) else if g = M.ml then some (i, 2) else if g = M.mv then some (i, 3) else if g = M.mq then some (i, 4) else if g ∈ fp M.row then some (i, 5) else L2 g
  have b1 : M.mw ≠ M.b := hM.wm.ne_blk hM.b
  have b2 : M.ml ≠ M.b := hM.l.ne_blk hM.b
  have b3 : M.mv ≠ M.b := hM.v.ne_blk hM.b
  have b4 : M.mq ≠ M.b := hM.k.ne_blk hM.b
  have r1 : ∀ g ∈ fp M.row, g ≠ M.b ∧ g ≠ M.mw ∧ g ≠ M.ml ∧ g ≠ M.mv ∧ g ≠ M.mq := fun g hg =>
    ⟨fun e => own_blk_off hM.o hM.b (by decide) (by rw [← e]; exact hg), fun e => hM.wm.off hM.o (by rw [← e]; exact hg), fun e => hM.l.off hM.o (by rw [← e]; exact hg), fun e => hM.v.off hM.o (by rw [← e]; exact hg), fun e => hM.k.off hM.o (by rw [← e]; exact hg)⟩
  have inB : ∀ g, g = M.b ∨ g = M.mw ∨ g = M.ml ∨ g = M.mv ∨ g = M.mq ∨ g ∈ fp M.row → g ∈ M.blocks := fun g hg => by simpa [Mem.blocks] using hg
  have off : ∀ g ∈ F2, L' g = L2 g := fun g hg => by
    have hn : ∀ d, d ∈ M.blocks → g ≠ d := fun d hd e => (hb d hd).1 (by rw [← e]; exact hg)
    simp only [L']
    rw [if_neg (hn _ (inB _ (.inl rfl))), if_neg (hn _ (inB _ (.inr (.inl rfl)))), if_neg (hn _ (inB _ (.inr (.inr (.inl rfl))))), if_neg (hn _ (inB _ (.inr (.inr (.inr (.inl rfl)))))), if_neg (hn _ (inB _ (.inr (.inr (.inr (.inr (.inl rfl))))))),
      if_neg (fun hh => hn g (inB _ (.inr (.inr (.inr (.inr (.inr hh)))))) rfl)]
  have l2 : ∀ g a, L2 g = some a → L' g = some a := fun g a hg => by rw [off g (h.inF g (by rw [hg]; rfl)), hg]
  have hmB : ∀ z ∈ C, ¬ left z.id → ∀ g ∈ (N z.id).blocks, g ∉ [m2] := fun z hz hl g hg hgm => by
    obtain ⟨k, hk, e⟩ := (h.lab z hz hl).all g hg
    rw [List.mem_singleton.1 hgm, h.lm] at e
    injection e with e
    injection e with _ e
    omega
  have hcm : c2 ∉ [m2] := fun hc => by
    have := h.lc
    rw [List.mem_singleton.1 hc, h.lm] at this
    injection this with this
    injection this with _ this
    omega
  have hst : ∀ z ∈ C, ¬ (left z.id ∧ z.id ≠ i) → z.id = i ∨ (z.id ≠ i ∧ ¬ left z.id) := fun z _ hh => by
    by_cases e : z.id = i
    · exact .inl e
    · exact .inr ⟨e, fun hl => hh ⟨hl, e⟩⟩
  refine ⟨L', h.cb.keep hk hcm, ?_, ?_, ?_, l2 _ _ h.lc, l2 _ _ h.lm, ?_, ?_, ?_, ?_⟩
  · refine hall.congr (fun j _ => ?_)
    unfold updG
    by_cases hj : j = i
    · subst hj
      have hh : has C j = true := has_iff.2 ⟨x, hxC, hxi⟩
      simp [hh]
    · simp [hj]
  · intro z hz hh
    rcases hst z hz hh with e | ⟨e, hl⟩
    · have : z = x := hT.inj hz hxC (e.trans hxi.symm)
      subst this
      rw [if_pos e, e]
      exact hM
    · rw [if_neg e]
      exact (h.one z hz hl).keep hk (hmB z hz hl) (fun p l hp g hg hgm => by
        have := (h.rowsOld hr hz hl hp g hg).2
        have := h.new m2 h.mF
        have := List.mem_singleton.1 hgm
        omega)
  · intro z hz hh
    rcases hst z hz hh with e | ⟨e, hl⟩
    · rw [if_pos e, e]
      obtain ⟨n1, n2, n3, n4, n5, n6⟩ := hne
      refine ⟨?_, ?_, ?_, ?_, ?_, fun g hg => ?_⟩
      · simp only [L']; rw [if_pos trivial]
      · simp only [L']; rw [if_neg b1, if_pos trivial]
      · simp only [L']; rw [if_neg b2, if_neg (Ne.symm n1), if_pos trivial]
      · simp only [L']; rw [if_neg b3, if_neg (Ne.symm n2), if_neg (Ne.symm n3), if_pos trivial]
      · simp only [L']; rw [if_neg b4, if_neg (Ne.symm n4), if_neg (Ne.symm n5), if_neg (Ne.symm n6), if_pos trivial]
      · obtain ⟨q1, q2, q3, q4, q5⟩ := r1 g hg
        simp only [L']
        rw [if_neg q1, if_neg q2, if_neg q3, if_neg q4, if_neg q5, if_pos hg]
    · rw [if_neg e]
      have hl' := h.lab z hz hl
      exact ⟨l2 _ _ hl'.b, l2 _ _ hl'.mw, l2 _ _ hl'.ml, l2 _ _ hl'.mv, l2 _ _ hl'.mq, fun g hg => l2 _ _ (hl'.row g hg)⟩
  · intro g hg
    simp only [L'] at hg
    by_cases q : g ∈ M.blocks
    · exact List.mem_append_left _ q
    · have hn := fun hh => q (inB g hh)

      obtain ⟨q0, q1, q2, q3, q4, q5⟩ := (show ¬ (g = M.b) ∧ ¬ (g = M.mw) ∧ ¬ (g = M.ml) ∧ ¬ (g = M.mv) ∧ ¬ (g = M.mq) ∧ ¬ g ∈ fp M.row from ⟨fun e => hn (.inl e), fun e => hn (.inr (.inl e)), fun e => hn (.inr (.inr (.inl e))), fun e => hn (.inr (.inr (.inr (.inl e)))), fun e => hn (.inr (.inr (.inr (.inr (.inl e))))), fun e => hn (.inr (.inr (.inr (.inr (.inr e)))))⟩)
      rw [if_neg q0, if_neg q1, if_neg q2, if_neg q3, if_neg q4, if_neg q5] at hg
      exact List.mem_append_right _ (h.inF g hg)
  · intro g hg
    rcases List.mem_append.1 hg with hg | hg
    · exact (hb g hg).2.2
    · exact Nat.lt_of_lt_of_le (h.ltF g hg) hk.size
  · intro g hg
    rcases List.mem_append.1 hg with hg | hg
    · exact (hb g hg).2.1
    · exact h.new g hg
  · intro z hz hh
    rcases hst z hz hh with e | ⟨e, hl⟩
    · rw [if_pos e, e]; exact hsl
    · rw [if_neg e]; exact h.sl z hz hl
/-- A parent is set. -/
theorem Half.setPar (hr : RepM w0 c m Mo L F G C) (hT : Tree C) (h : Half w0 w Mo C c2 m2 n N L2 F2 (fun _ => False) par) {z : One} (hz : z ∈ C) (pp : Option Nat) {par' : One → Option Nat} (hp : par' z = pp) (ho : ∀ y ∈ C, y.id ≠ z.id → par' y = par y) :
    Half w0 (w.setCell ⟨(N z.id).b, 0, none⟩ (pv pp)) Mo C c2 m2 n N L2 F2 (fun _ => False) par' := by
  have hlz := h.lab z hz id
  have hk : Keeps [(N z.id).b] w (w.setCell ⟨(N z.id).b, 0, none⟩ (pv pp)) := (Keeps.refl _ w).setCell (by simp) _
  have hne : ∀ g a, L2 g = some a → a ≠ (z.id, 0) → g ∉ [(N z.id).b] := fun g a hg ha hgb => by
    rw [List.mem_singleton.1 hgb, hlz.b] at hg
    injection hg with hg
    exact ha hg.symm
  have hbn := h.new _ (h.blkF hz id (show (N z.id).b ∈ (N z.id).blocks by simp [Mem.blocks]))
  refine ⟨h.cb.keep hk (hne _ _ h.lc (by intro e; injection e with _ e; omega)), h.all.keep hk (hne _ _ h.lm (by intro e; injection e with _ e; omega)), fun y hy hl => ?_, h.lab, h.lc, h.lm, h.inF, fun g hg => Nat.lt_of_lt_of_le (h.ltF g hg) hk.size, h.new, h.sl⟩
  have hy1 := h.one y hy hl
  have hly := h.lab y hy hl
  have hrow : ∀ q l, Rd.keys q l ∈ y.rd → ∀ g ∈ fp ((N y.id).sl q).v, g ∉ [(N z.id).b] := fun q l hq g hg hgb => by
    have := (h.rowsOld hr hy hl hq g hg).2
    have := List.mem_singleton.1 hgb
    omega
  by_cases e : y.id = z.id
  · have : y = z := hT.inj hy hz e
    subst this
    rw [hp]
    have hoff : ∀ g k, L2 g = some (y.id, k) → k ≠ 0 → g ∉ [(N y.id).b] := fun g k hg hk0 => hne g _ hg (by intro e; injection e with _ e; exact hk0 e)
    exact ⟨hy1.b.set_ 0 (pv pp), hy1.wm.keep hk (hoff _ 1 hly.mw (by omega)), hy1.l.keep hk (hoff _ 2 hly.ml (by omega)), own_keep hy1.o hk (fun g hg => hoff _ 5 (hly.row g hg) (by omega)), hy1.v.keep hk (hoff _ 3 hly.mv (by omega)), hy1.k.keep hk (hoff _ 4 hly.mq (by omega)), fun q l hq => own_keep (hy1.s q l hq) hk (hrow q l hq)⟩
  · rw [ho y hy e]
    refine hy1.keep hk (fun g hg => ?_) hrow
    obtain ⟨k, hk0, e2⟩ := hly.all g hg
    exact hne g _ e2 (by intro e3; injection e3 with e3 _; exact e e3)
/-- All are there. -/
theorem Half.end_ (hr : RepM w0 c m Mo L F G C) (h : Half w0 w Mo C c2 m2 n N L2 F2 (fun _ => False) par) (hp : ∀ z ∈ C, par z = parOf N z) (hk : Keeps [] w0 w) : RepM w c2 m2 N L2 F2 G C := by
  refine ⟨h.cb, ?_, fun z hz => by rw [← hp z hz]; exact h.one z hz id, fun z hz => h.lab z hz id, h.lc, h.lm, h.inF, fun z hz p l hl g hg => (h.rowsOld hr hz id hl g hg).1, h.ltF, fun g hg => Nat.lt_of_lt_of_le (hr.ltG g hg) hk.size, fun g hg hgF => ?_⟩
  · have h1 := h.all.congr (g := fun i => if has C i = true then some (N i).b else none) (fun j _ => by simp)
    have h2 := h1.fit Tryz.underlying63 (C.map (·.id)) (fun j _ hj => by
      by_cases hh : has C j = true
      · obtain ⟨z, hz, hzj⟩ := has_iff.1 hh
        exact List.mem_map.2 ⟨z, hz, hzj⟩
      · rw [if_neg hh] at hj; cases hj)
    rwa [List.length_map] at h2
  · have := hr.ltG g hg
    have := h.new g hgF
    omega
/-- The twins so far. -/
structure Tw (C : St) (Mo N : Int → Mem) (left : Int → Prop) (l : List (Nat × Nat)) : Prop where
  i : ∀ q ∈ l, ∃ z ∈ C, ¬ left z.id ∧ q = ((Mo z.id).b, (N z.id).b)
  o : ∀ z ∈ C, ¬ left z.id → ((Mo z.id).b, (N z.id).b) ∈ l
  nd : (l.map (·.1)).Nodup
theorem Tw.find {l : List (Nat × Nat)} (h : Tw C Mo N (fun _ => False) l) (hT : Tree C) {z : One} (hz : z ∈ C) : pfind l (parOf Mo z) = parOf N z := by
  unfold parOf
  by_cases h0 : z.id = 0
  · rw [if_pos h0, if_pos h0]; rfl
  · rw [if_neg h0, if_neg h0]
    obtain ⟨y, hy, hyp⟩ := has_iff.1 (hT.par hz h0)
    have hm := h.o y hy id
    rw [hyp] at hm
    unfold pfind
    cases hf : l.find? (fun q => decide (q.1 = (Mo z.par).b)) with
    | none =>
      have := List.find?_eq_none.1 hf _ hm
      simp at this
    | some q =>
      have h1 := List.mem_of_find?_eq_some hf
      have h2 := List.find?_some hf
      have := inj_of_nodup h.nd q h1 _ hm (by simpa using h2)
      show (l.find? (fun q => decide (q.1 = (Mo z.par).b))).map (·.2) = _
      rw [hf, this]
      rfl
end
end Go.Proofs.YtbllmpcpfmlemaaGreat
