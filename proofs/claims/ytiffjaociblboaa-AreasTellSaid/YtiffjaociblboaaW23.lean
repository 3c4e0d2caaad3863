/- The reference's Map (printed by w23gen.py). -/
import Derived.Test.YtiffjaociblboaaK1
namespace Go.Proofs.Ytiffjaociblboaa
open Go.RowKit

theorem insA_all {x : Ar} : ∀ {M : List Ar}, (∀ y ∈ M, y.a < x.a) → insA x M = M ++ [x]
  | [], _ => rfl
  | y :: r, h => by
    rw [insA_cons, if_pos (h y (by simp)), insA_all (fun z hz => h z (by simp [hz]))]
    rfl
theorem insA_app {x z : Ar} : ∀ {M : List Ar}, (∃ y ∈ M, ¬ y.a < x.a) → insA x (M ++ [z]) = insA x M ++ [z]
  | [], h => by obtain ⟨y, hy, _⟩ := h; cases hy
  | y :: r, h => by
    rw [List.cons_append, insA_cons, insA_cons]
    by_cases hy : y.a < x.a
    · rw [if_pos hy, if_pos hy, insA_app (by
        obtain ⟨u, hu, hux⟩ := h
        rcases List.mem_cons.1 hu with rfl | hu
        · exact absurd hy hux
        · exact ⟨u, hu, hux⟩)]
      rfl
    · rw [if_neg hy, if_neg hy]
      rfl
theorem insA_mid {x z : Ar} : ∀ {M : List Ar}, (∀ y ∈ M, y.a < x.a) → ¬ z.a < x.a → insA x (M ++ [z]) = (M ++ [x]) ++ [z]
  | [], _, hz => by
    show insA x [z] = [x, z]
    rw [insA_cons, if_neg hz]
  | y :: r, h, hz => by
    rw [List.cons_append, insA_cons, if_pos (h y (by simp)), insA_mid (fun u hu => h u (by simp [hu])) hz]
    rfl
theorem ne_at {x y : Ar} {L : List Ar} (h : fnd L x.a = none) (hy : y ∈ L) (hv : Vd y) : y.a ≠ x.a := by
  intro e
  have h1 := List.find?_eq_none.1 h y hy
  have := hv.n1
  exact h1 (inA_iff.2 ⟨by omega, by omega⟩)
/-- What the loop has built. -/
def BldR (x : Ar) (M : List Ar) (d : Bool) (l : List Ar) : Prop := (d = false ∧ l = M ∧ ∀ y ∈ M, y.a < x.a) ∨ (d = true ∧ l = insA x M ∧ ∃ y ∈ M, ¬ y.a < x.a)
theorem BldR.done {x z : Ar} {M l : List Ar} (h : BldR x M true l) : BldR x (M ++ [z]) true (l ++ [z]) := by
  rcases h with ⟨h, -⟩ | ⟨-, rfl, h⟩
  · cases h
  · refine .inr ⟨rfl, (insA_app h).symm, ?_⟩
    obtain ⟨y, hy, hyx⟩ := h
    exact ⟨y, by simp [hy], hyx⟩
theorem BldR.low {x z : Ar} {M l : List Ar} (h : BldR x M false l) (hz : z.a < x.a) : BldR x (M ++ [z]) false (l ++ [z]) := by
  rcases h with ⟨-, rfl, h⟩ | ⟨h, -⟩
  · refine .inl ⟨rfl, rfl, fun y hy => ?_⟩
    rcases List.mem_append.1 hy with hy | hy
    · exact h y hy
    · obtain rfl : y = z := by simpa using hy
      exact hz
  · cases h
theorem BldR.mid {x z : Ar} {M l : List Ar} (h : BldR x M false l) (hz : ¬ z.a < x.a) : BldR x (M ++ [z]) true ((l ++ [x]) ++ [z]) := by
  rcases h with ⟨-, rfl, h⟩ | ⟨h, -⟩
  · exact .inr ⟨rfl, (insA_mid h hz).symm, z, by simp, hz⟩
  · cases h
theorem BldR.fin {x : Ar} {M l : List Ar} (h : BldR x M false l) : l ++ [x] = insA x M := by
  rcases h with ⟨-, rfl, h⟩ | ⟨h, -⟩
  · exact (insA_all h).symm
  · cases h
theorem BldR.fin' {x : Ar} {M l : List Ar} (h : BldR x M true l) : l = insA x M := by
  rcases h with ⟨h, -⟩ | ⟨-, rfl, h⟩
  · cases h
  · rfl
theorem BldR.len {x : Ar} {M l : List Ar} {d : Bool} (h : BldR x M d l) : l.length ≤ M.length + 1 := by
  rcases h with ⟨-, rfl, h⟩ | ⟨-, rfl, h⟩
  · omega
  · rw [insA_len]; omega
noncomputable def rm16tC : Code := ((Try.f16.body.bind (theRegion 16)).getD .skip)
set_option maxRecDepth 1000000 in
set_option maxHeartbeats 1600000 in
set_option linter.unusedSimpArgs false in
theorem rm16t_any (w : World) (n c k xb : Nat) (A : Option Addr) (K : Exit → Act → World → Prop)
    (u1 u2 u4 u5 u6 u7 u8 u9 u12 u13 u14 u15 u16 u17 u18 u19 u20 u21 u22 u23 u24 u25 u26 u27 u28 u29 u30 u31 u32 u33 u34 u35 u36 u37 u38 u39 u40 u41 u42 u43 u44 u45 u46 u47 u48 u49 u50 u51 u52 u53 u54 u55 u56 u57 u58 u59 u60 u61 u62 u63 u64 u65 u66 u67 u68 u69 u70 u71 u72 u73 u74 : Value)
    (hK : ∀ (v45 v46 v47 v48 v49 v50 v51 v52 v53 v54 v55 : Value) (W : World), Keeps [] w W → K .normal ⟨#[.slice A n c, u1, u2, .pointer (some ⟨xb, 0, none⟩), u4, u5, u6, u7, u8, u9, .bool true, .int .i64 k, u12, u13, u14, u15, u16, u17, u18, u19, u20, u21, u22, u23, u24, u25, u26, u27, u28, u29, u30, u31, u32, u33, u34, u35, u36, u37, u38, u39, u40, u41, u42, u43, u44, v45, v46, v47, v48, v49, v50, v51, v52, v53, v54, v55, .bool false, u57, u58, u59, u60, u61, u62, u63, u64, u65, u66, u67, u68, u69, u70, u71, u72, u73, u74], []⟩ W) :
    Code.wp Try.prog rm16tC K ⟨#[.slice A n c, u1, u2, .pointer (some ⟨xb, 0, none⟩), u4, u5, u6, u7, u8, u9, .bool true, .int .i64 k, u12, u13, u14, u15, u16, u17, u18, u19, u20, u21, u22, u23, u24, u25, u26, u27, u28, u29, u30, u31, u32, u33, u34, u35, u36, u37, u38, u39, u40, u41, u42, u43, u44, u45, u46, u47, u48, u49, u50, u51, u52, u53, u54, u55, u56, u57, u58, u59, u60, u61, u62, u63, u64, u65, u66, u67, u68, u69, u70, u71, u72, u73, u74], []⟩ w := by
  have HS : Hid (∀ W : World, Keeps [] w W → True) := Lib.hid (fun _ _ => trivial)
  conv => arg 2; whnf
  dsimp only at hK ⊢
  refine wp_region_noPanic ?_
  refine wp_region_held_drew (S := fun _ => True) (by kernel_rfl) (HS.out _ ((Keeps.refl [] w).drew)) (fun hHeld => ?_)
  obtain ⟨w0, hw0⟩ : ∃ w0, w.drew = w0 := ⟨_, rfl⟩
  try rw [hw0] at hHeld
  rw [hw0]
  have K0 : Keeps [] w w0 := by rw [← hw0]; exact (Keeps.refl [] w).drew
  clear hw0
  refine wpAnyH_take (i := 0) (oi := ⟨some 45, Op.move (Operand.tmp 10), 4, _, _, none⟩) (v := ?vq1) rfl (by kernel_rfl) (by kernel_rfl) (by kernel_rfl) (fun _ _ _ h => h) (Or.inl ⟨by rfl, fun W hW => ?_⟩) (by assumption) ?_
  rotate_left
  · go_simp
    with_reducible rfl
  try simp only [Act.put, List.setIfInBounds_toArray, List.set_cons_zero, List.set_cons_succ]
  refine wpAnyH_take (i := 1) (oi := ⟨some 46, Op.unOp UnOp.not 4 (Operand.tmp 45), 4, _, _, none⟩) (v := .bool false) rfl (by kernel_rfl) (by kernel_rfl) (by kernel_rfl) (fun _ _ _ h => h) (Or.inl ⟨by rfl, fun W hW => ?_⟩) (by assumption) ?_
  · go_simp
  try simp only [Act.put, List.setIfInBounds_toArray, List.set_cons_zero, List.set_cons_succ]
  refine wpAnyH_take (i := 2) (oi := ⟨some 47, Op.move (Operand.tmp 46), 4, _, _, none⟩) (v := .bool false) rfl (by kernel_rfl) (by kernel_rfl) (by kernel_rfl) (fun _ _ _ h => h) (Or.inl ⟨by rfl, fun W hW => ?_⟩) (by assumption) ?_
  · go_simp
  try simp only [Act.put, List.setIfInBounds_toArray, List.set_cons_zero, List.set_cons_succ]
  refine wpAnyH_take (i := 3) (oi := ⟨some 48, Op.move (Operand.tmp 0), 22, _, _, some (2, true)⟩) (v := undef) rfl (by kernel_rfl) (by kernel_rfl) (by kernel_rfl) (fun _ _ _ h => h) (Or.inr ⟨by rfl, rfl⟩) (by assumption) ?_
  try simp only [Act.put, List.setIfInBounds_toArray, List.set_cons_zero, List.set_cons_succ]
  refine wpAnyH_take (i := 4) (oi := ⟨some 49, Op.move (Operand.tmp 11), 3, _, _, some (2, true)⟩) (v := undef) rfl (by kernel_rfl) (by kernel_rfl) (by kernel_rfl) (fun _ _ _ h => h) (Or.inr ⟨by rfl, rfl⟩) (by assumption) ?_
  try simp only [Act.put, List.setIfInBounds_toArray, List.set_cons_zero, List.set_cons_succ]
  refine wpAnyH_take (i := 5) (oi := ⟨some 50, Op.indexAddr 22 (Operand.tmp 48) (Operand.tmp 49), 0, _, _, some (2, true)⟩) (v := undef) rfl (by kernel_rfl) (by kernel_rfl) (by kernel_rfl) (fun _ _ _ h => h) (Or.inr ⟨by rfl, rfl⟩) (by assumption) ?_
  try simp only [Act.put, List.setIfInBounds_toArray, List.set_cons_zero, List.set_cons_succ]
  refine wpAnyH_take (i := 6) (oi := ⟨some 51, Op.fieldAddr 24 (Operand.tmp 50) 0, 0, _, _, some (2, true)⟩) (v := undef) rfl (by kernel_rfl) (by kernel_rfl) (by kernel_rfl) (fun _ _ _ h => h) (Or.inr ⟨by rfl, rfl⟩) (by assumption) ?_
  try simp only [Act.put, List.setIfInBounds_toArray, List.set_cons_zero, List.set_cons_succ]
  refine wpAnyH_take (i := 7) (oi := ⟨some 52, Op.load 3 (Operand.tmp 51), 3, _, _, some (2, true)⟩) (v := undef) rfl (by kernel_rfl) (by kernel_rfl) (by kernel_rfl) (fun _ _ _ h => h) (Or.inr ⟨by rfl, rfl⟩) (by assumption) ?_
  try simp only [Act.put, List.setIfInBounds_toArray, List.set_cons_zero, List.set_cons_succ]
  refine wpAnyH_take (i := 8) (oi := ⟨some 53, Op.fieldAddr 24 (Operand.tmp 3) 0, 0, _, _, some (2, true)⟩) (v := undef) rfl (by kernel_rfl) (by kernel_rfl) (by kernel_rfl) (fun _ _ _ h => h) (Or.inr ⟨by rfl, rfl⟩) (by assumption) ?_
  try simp only [Act.put, List.setIfInBounds_toArray, List.set_cons_zero, List.set_cons_succ]
  refine wpAnyH_take (i := 9) (oi := ⟨some 54, Op.load 3 (Operand.tmp 53), 3, _, _, some (2, true)⟩) (v := undef) rfl (by kernel_rfl) (by kernel_rfl) (by kernel_rfl) (fun _ _ _ h => h) (Or.inr ⟨by rfl, rfl⟩) (by assumption) ?_
  try simp only [Act.put, List.setIfInBounds_toArray, List.set_cons_zero, List.set_cons_succ]
  refine wpAnyH_take (i := 10) (oi := ⟨some 55, Op.binOp BinOp.gtr 3 (Operand.tmp 52) (Operand.tmp 54) 3, 4, _, _, some (2, true)⟩) (v := undef) rfl (by kernel_rfl) (by kernel_rfl) (by kernel_rfl) (fun _ _ _ h => h) (Or.inr ⟨by rfl, rfl⟩) (by assumption) ?_
  try simp only [Act.put, List.setIfInBounds_toArray, List.set_cons_zero, List.set_cons_succ]
  refine wpAnyH_take (i := 11) (oi := ⟨some 56, Op.pick (Operand.tmp 47) (Operand.tmp 55) (Operand.const (Value.bool false)), 4, _, _, none⟩) (v := .bool false) rfl (by kernel_rfl) (by kernel_rfl) (by kernel_rfl) (fun _ _ _ h => h) (Or.inl ⟨by rfl, fun W hW => ?_⟩) (by assumption) ?_
  · go_simp
  try simp only [Act.put, List.setIfInBounds_toArray, List.set_cons_zero, List.set_cons_succ]
  refine wpAnyH_done (by kernel_rfl) ?_ _
  refine NoPanic.normal ?_
  exact hK _ _ _ _ _ _ _ _ _ _ _ _ K0
noncomputable def rm16fC : Code := ((Try.f16.body.bind (theRegion 16)).getD .skip)
set_option maxRecDepth 1000000 in
set_option maxHeartbeats 1600000 in
set_option linter.unusedSimpArgs false in
theorem rm16f_any (w : World) (bl off n c k xb : Nat) (xa za : Int) (K : Exit → Act → World → Prop)
    (hS : ∀ W, Keeps [] w W → W.cell? ⟨bl, off + k * 6, none⟩ = some (.int .i64 za) ∧ W.cell? ⟨xb, 0, none⟩ = some (.int .i64 xa)) (_hn : n ≤ 1000000) (hk : k < n)
    (u1 u2 u4 u5 u6 u7 u8 u9 u12 u13 u14 u15 u16 u17 u18 u19 u20 u21 u22 u23 u24 u25 u26 u27 u28 u29 u30 u31 u32 u33 u34 u35 u36 u37 u38 u39 u40 u41 u42 u43 u44 u45 u46 u47 u48 u49 u50 u51 u52 u53 u54 u55 u56 u57 u58 u59 u60 u61 u62 u63 u64 u65 u66 u67 u68 u69 u70 u71 u72 u73 u74 : Value)
    (hK : ∀ (v45 v46 v47 v48 v49 v50 v51 v52 v53 v54 v55 : Value) (W : World), Keeps [] w W → K .normal ⟨#[.slice (some ⟨bl, off, none⟩) n c, u1, u2, .pointer (some ⟨xb, 0, none⟩), u4, u5, u6, u7, u8, u9, .bool false, .int .i64 k, u12, u13, u14, u15, u16, u17, u18, u19, u20, u21, u22, u23, u24, u25, u26, u27, u28, u29, u30, u31, u32, u33, u34, u35, u36, u37, u38, u39, u40, u41, u42, u43, u44, v45, v46, v47, v48, v49, v50, v51, v52, v53, v54, v55, .bool (decide (xa < za)), u57, u58, u59, u60, u61, u62, u63, u64, u65, u66, u67, u68, u69, u70, u71, u72, u73, u74], []⟩ W) :
    Code.wp Try.prog rm16fC K ⟨#[.slice (some ⟨bl, off, none⟩) n c, u1, u2, .pointer (some ⟨xb, 0, none⟩), u4, u5, u6, u7, u8, u9, .bool false, .int .i64 k, u12, u13, u14, u15, u16, u17, u18, u19, u20, u21, u22, u23, u24, u25, u26, u27, u28, u29, u30, u31, u32, u33, u34, u35, u36, u37, u38, u39, u40, u41, u42, u43, u44, u45, u46, u47, u48, u49, u50, u51, u52, u53, u54, u55, u56, u57, u58, u59, u60, u61, u62, u63, u64, u65, u66, u67, u68, u69, u70, u71, u72, u73, u74], []⟩ w := by
  have HS := Lib.hid hS
  have i0 : (0 : Int) ≤ (k : Int) := by omega
  have i1 : (k : Int) < (n : Int) := by omega
  clear hS
  conv => arg 2; whnf
  dsimp only at hK ⊢
  refine wp_region_noPanic ?_
  refine wp_region_held_drew (S := fun W => W.cell? ⟨bl, off + k * 6, none⟩ = some (.int .i64 za) ∧ W.cell? ⟨xb, 0, none⟩ = some (.int .i64 xa)) (by kernel_rfl) (HS.out _ ((Keeps.refl [] w).drew)) (fun hHeld => ?_)
  obtain ⟨w0, hw0⟩ : ∃ w0, w.drew = w0 := ⟨_, rfl⟩
  try rw [hw0] at hHeld
  rw [hw0]
  have K0 : Keeps [] w w0 := by rw [← hw0]; exact (Keeps.refl [] w).drew
  clear hw0
  refine wpAnyH_take (i := 0) (oi := ⟨some 45, Op.move (Operand.tmp 10), 4, _, _, none⟩) (v := ?vq2) rfl (by kernel_rfl) (by kernel_rfl) (by kernel_rfl) (fun _ _ _ h => h) (Or.inl ⟨by rfl, fun W hW => ?_⟩) (by assumption) ?_
  rotate_left
  · go_simp
    with_reducible rfl
  try simp only [Act.put, List.setIfInBounds_toArray, List.set_cons_zero, List.set_cons_succ]
  refine wpAnyH_take (i := 1) (oi := ⟨some 46, Op.unOp UnOp.not 4 (Operand.tmp 45), 4, _, _, none⟩) (v := .bool true) rfl (by kernel_rfl) (by kernel_rfl) (by kernel_rfl) (fun _ _ _ h => h) (Or.inl ⟨by rfl, fun W hW => ?_⟩) (by assumption) ?_
  · go_simp
  try simp only [Act.put, List.setIfInBounds_toArray, List.set_cons_zero, List.set_cons_succ]
  refine wpAnyH_take (i := 2) (oi := ⟨some 47, Op.move (Operand.tmp 46), 4, _, _, none⟩) (v := .bool true) rfl (by kernel_rfl) (by kernel_rfl) (by kernel_rfl) (fun _ _ _ h => h) (Or.inl ⟨by rfl, fun W hW => ?_⟩) (by assumption) ?_
  · go_simp
  try simp only [Act.put, List.setIfInBounds_toArray, List.set_cons_zero, List.set_cons_succ]
  refine wpAnyH_take (i := 3) (oi := ⟨some 48, Op.move (Operand.tmp 0), 22, _, _, some (2, true)⟩) (v := ?vq3) rfl (by kernel_rfl) (by kernel_rfl) (by kernel_rfl) (fun _ _ _ h => h) (Or.inl ⟨by rfl, fun W hW => ?_⟩) (by assumption) ?_
  rotate_left
  · go_simp
    with_reducible rfl
  try simp only [Act.put, List.setIfInBounds_toArray, List.set_cons_zero, List.set_cons_succ]
  refine wpAnyH_take (i := 4) (oi := ⟨some 49, Op.move (Operand.tmp 11), 3, _, _, some (2, true)⟩) (v := ?vq4) rfl (by kernel_rfl) (by kernel_rfl) (by kernel_rfl) (fun _ _ _ h => h) (Or.inl ⟨by rfl, fun W hW => ?_⟩) (by assumption) ?_
  rotate_left
  · go_simp
    with_reducible rfl
  try simp only [Act.put, List.setIfInBounds_toArray, List.set_cons_zero, List.set_cons_succ]
  refine wpAnyH_take (i := 5) (oi := ⟨some 50, Op.indexAddr 22 (Operand.tmp 48) (Operand.tmp 49), 0, _, _, some (2, true)⟩) (v := ?vq5) rfl (by kernel_rfl) (by kernel_rfl) (by kernel_rfl) (fun _ _ _ h => h) (Or.inl ⟨by rfl, fun W hW => ?_⟩) (by assumption) ?_
  rotate_left
  · go_simp
    with_reducible rfl
  try simp only [Act.put, List.setIfInBounds_toArray, List.set_cons_zero, List.set_cons_succ]
  refine wpAnyH_take (i := 6) (oi := ⟨some 51, Op.fieldAddr 24 (Operand.tmp 50) 0, 0, _, _, some (2, true)⟩) (v := ?vq6) rfl (by kernel_rfl) (by kernel_rfl) (by kernel_rfl) (fun _ _ _ h => h) (Or.inl ⟨by rfl, fun W hW => ?_⟩) (by assumption) ?_
  rotate_left
  · go_simp
    with_reducible rfl
  try simp only [Act.put, List.setIfInBounds_toArray, List.set_cons_zero, List.set_cons_succ]
  refine wpAnyH_take (i := 7) (oi := ⟨some 52, Op.load 3 (Operand.tmp 51), 3, _, _, some (2, true)⟩) (v := .int .i64 za) rfl (by kernel_rfl) (by kernel_rfl) (by kernel_rfl) (fun _ _ _ h => h) (Or.inl ⟨by rfl, fun W hW => ?_⟩) (by assumption) ?_
  · go_simp
  try simp only [Act.put, List.setIfInBounds_toArray, List.set_cons_zero, List.set_cons_succ]
  refine wpAnyH_take (i := 8) (oi := ⟨some 53, Op.fieldAddr 24 (Operand.tmp 3) 0, 0, _, _, some (2, true)⟩) (v := ?vq7) rfl (by kernel_rfl) (by kernel_rfl) (by kernel_rfl) (fun _ _ _ h => h) (Or.inl ⟨by rfl, fun W hW => ?_⟩) (by assumption) ?_
  rotate_left
  · go_simp
    with_reducible rfl
  try simp only [Act.put, List.setIfInBounds_toArray, List.set_cons_zero, List.set_cons_succ]
  refine wpAnyH_take (i := 9) (oi := ⟨some 54, Op.load 3 (Operand.tmp 53), 3, _, _, some (2, true)⟩) (v := .int .i64 xa) rfl (by kernel_rfl) (by kernel_rfl) (by kernel_rfl) (fun _ _ _ h => h) (Or.inl ⟨by rfl, fun W hW => ?_⟩) (by assumption) ?_
  · go_simp
  try simp only [Act.put, List.setIfInBounds_toArray, List.set_cons_zero, List.set_cons_succ]
  refine wpAnyH_take (i := 10) (oi := ⟨some 55, Op.binOp BinOp.gtr 3 (Operand.tmp 52) (Operand.tmp 54) 3, 4, _, _, some (2, true)⟩) (v := .bool (decide (xa < za))) rfl (by kernel_rfl) (by kernel_rfl) (by kernel_rfl) (fun _ _ _ h => h) (Or.inl ⟨by rfl, fun W hW => ?_⟩) (by assumption) ?_
  · go_simp
  try simp only [Act.put, List.setIfInBounds_toArray, List.set_cons_zero, List.set_cons_succ]
  refine wpAnyH_take (i := 11) (oi := ⟨some 56, Op.pick (Operand.tmp 47) (Operand.tmp 55) (Operand.const (Value.bool false)), 4, _, _, none⟩) (v := .bool (decide (xa < za))) rfl (by kernel_rfl) (by kernel_rfl) (by kernel_rfl) (fun _ _ _ h => h) (Or.inl ⟨by rfl, fun W hW => ?_⟩) (by assumption) ?_
  · go_simp
  try simp only [Act.put, List.setIfInBounds_toArray, List.set_cons_zero, List.set_cons_succ]
  refine wpAnyH_done (by kernel_rfl) ?_ _
  refine NoPanic.normal ?_
  exact hK _ _ _ _ _ _ _ _ _ _ _ _ K0
set_option maxRecDepth 1000000 in
set_option maxHeartbeats 12800000 in
theorem rmap_any (w : World) (A : Option Addr) (L : List Ar) (c : Nat) (x : Ar) (ha : AtL w A L) (hvl : Vl L = true) :
    Calls Try.prog 16 #[.slice A L.length c, .agg #[.int .i64 x.a, .int .i64 x.n, .string x.o, .int .i64 x.f, .bool x.s, .bool x.w]] w (MapP w A L c x) := by
  have hm := ha.mx
  have HH := Lib.hid ha
  have HI := Lib.hid info24
  have HVL := Lib.hid hvl
  obtain ⟨xa, xn, xo, xf, xs, xw⟩ := x
  dsimp only
  have hva := rvalid_any (w.alloc (.cells #[.int .i64 xa, .int .i64 xn, .string xo, .int .i64 xf, .bool xs, .bool xw] 24)) ⟨xa, xn, xo, xf, xs, xw⟩
  unfold Ar.v at hva
  dsimp only at hva
  obtain ⟨I, hI⟩ : ∃ I, vld ⟨xa, xn, xo, xf, xs, xw⟩ = I := ⟨_, rfl⟩
  rw [hI] at hva
  have HVA := Lib.hid hva
  have HVX := Lib.hid hI
  have KX : Hid (Keeps [] w (w.alloc (.cells #[.int .i64 xa, .int .i64 xn, .string xo, .int .i64 xf, .bool xs, .bool xw] 24))) := Lib.hid ((Keeps.refl [] w).alloc _)
  have BX : Hid (Blk (w.alloc (.cells #[.int .i64 xa, .int .i64 xn, .string xo, .int .i64 xf, .bool xs, .bool xw] 24)) w.heap.size 24 #[.int .i64 xa, .int .i64 xn, .string xo, .int .i64 xf, .bool xs, .bool xw]) := Lib.hid (Blk.new w 24 _)
  have hxl : Hid (w.heap.size < (w.alloc (.cells #[.int .i64 xa, .int .i64 xn, .string xo, .int .i64 xf, .bool xs, .bool xw] 24)).heap.size) := Lib.hid BX.out.lt
  clear ha hvl hva hI
  cases I with
  | false =>
    have eE : Hid (mapE ⟨xa, xn, xo, xf, xs, xw⟩ L = 3) := Lib.hid (by unfold mapE; rw [HVX.out]; rfl)
    go_enter Try.func16, Try.ntmps16
    go_wp2_with fail
    refine HVA.out.mono ?_
    rintro e w1 ⟨rfl, k1⟩
    have K1 : Hid (Keeps [] w w1) := Lib.hid (KX.out.trans k1 (by simp))
    clear k1 HVA
    go_wp2_with fail
    go_ret2
    exact .inr ⟨by rw [eE.out]; omega, by rw [eE.out]; rfl, K1.out⟩
  | true =>
    have hvx := vld_iff.1 HVX.out
    have x1 := hvx.a0
    have x2 := hvx.n1
    have x3 := hvx.n2
    have x4 := hvx.an
    dsimp only at x1 x2 x3 x4
    clear hvx
    go_enter Try.func16, Try.ntmps16
    go_wp2_with fail
    refine HVA.out.mono ?_
    rintro e w1 ⟨rfl, k1⟩
    obtain ⟨xb, hxb⟩ : ∃ xb, w.heap.size = xb := ⟨_, rfl⟩
    have K1 : Hid (Keeps [] w w1) := Lib.hid (KX.out.trans k1 (by simp))
    have B1 : Hid (∀ W, Keeps [] w1 W → Blk W xb 24 #[.int .i64 xa, .int .i64 xn, .string xo, .int .i64 xf, .bool xs, .bool xw]) := Lib.hid (fun W k => by rw [← hxb]; exact (BX.out.keep k1 (by simp)).keep k (by simp))
    rw [hxb]
    clear k1 HVA KX BX hxl hxb
    have d0 : w1.cell? ⟨xb, 0, none⟩ = some (.int .i64 xa) := (B1.out w1 (Keeps.refl _ _)).cell 0
    go_wp2_with fail
    clear d0
    go_loopw [6] (fun p wr => ∃ q : Int, p = .int .i64 q ∧ xa ≤ q ∧ q ≤ xa + xn ∧ (∀ r, xa ≤ r → r < q → fnd L r = none) ∧ Keeps [] w1 wr) (fun p _ => (xa + xn - intOf p).toNat)
    case atStart => exact ⟨xa, rfl, by omega, by omega, fun r a b => absurd a (by omega), Keeps.refl _ _⟩
    case round =>
      obtain ⟨q, rfl, hq0, hq1, hfr, kp⟩ := hrel
      have HFR := Lib.hid hfr
      have KP := Lib.hid kp
      have d0 : wr.cell? ⟨xb, 0, none⟩ = some (.int .i64 xa) := (B1.out wr kp).cell 0
      have d1 : wr.cell? ⟨xb, 1, none⟩ = some (.int .i64 xn) := (B1.out wr kp).cell 1
      clear hfr kp
      by_cases hq : q < xa + xn
      · have hfi := rfind_any wr A L c q (HH.out.keep (K1.out.trans KP.out (by simp))) (vl_vds HVL.out)
        obtain ⟨Zf, hZ⟩ : ∃ Zf, fndV L q = Zf := ⟨_, rfl⟩
        obtain ⟨Fb, hFb⟩ : ∃ Fb, (fnd L q).isSome = Fb := ⟨_, rfl⟩
        rw [hZ, hFb] at hfi
        unfold Ar.v at hfi
        have HFB := Lib.hid hFb
        have HFI := Lib.hid hfi
        clear hfi hZ hFb
        go_wp2_with fail
        refine HFI.out.mono ?_
        rintro e w2 ⟨rfl, k2⟩
        have K2 : Hid (Keeps [] w1 w2) := Lib.hid (KP.out.trans k2 (by simp))
        clear k2 HFI d0 d1
        cases Fb with
        | true =>
          have hcl : clash ⟨xa, xn, xo, xf, xs, xw⟩ L = true := (clash_iff (vld_iff.1 HVX.out) (vl_chn HVL.out).1).2 ⟨q, hq0, hq, HFB.out⟩
          have eE : Hid (mapE ⟨xa, xn, xo, xf, xs, xw⟩ L = 5) := Lib.hid (by unfold mapE; rw [HVX.out, hcl]; rfl)
          clear hcl
          go_wp2_with fail
          go_ret2
          exact .inr ⟨by rw [eE.out]; omega, by rw [eE.out]; rfl, (K1.out.trans K2.out (by simp)).alloc _⟩
        | false =>
          go_wp2_with fail
          go_roundw
          case rel =>
            refine ⟨q + 1, by go_num, by omega, by omega, fun r a b => ?_, K2.out.alloc _⟩
            rcases Int.lt_or_le r q with h | h
            · exact HFR.out r a h
            · obtain rfl : r = q := by omega
              have := HFB.out
              cases hh : fnd L r with
              | none => rfl
              | some y => rw [hh] at this; cases this
          case measure => simp [intOf]; omega
      · have hfree : fnd L xa = none := HFR.out xa (by omega) (by omega)
        have hcl : clash ⟨xa, xn, xo, xf, xs, xw⟩ L = false := by
          cases hc : clash ⟨xa, xn, xo, xf, xs, xw⟩ L with
          | false => rfl
          | true =>
            obtain ⟨p, h1, h2, h3⟩ := (clash_iff (vld_iff.1 HVX.out) (vl_chn HVL.out).1).1 hc
            dsimp only at h1 h2
            rw [HFR.out p h1 (by omega)] at h3
            cases h3
        have eE : Hid (mapE ⟨xa, xn, xo, xf, xs, xw⟩ L = if 16 ≤ L.length then 6 else 0) := Lib.hid (by unfold mapE; rw [HVX.out, hcl]; rfl)
        have HFREE := Lib.hid hfree
        clear hcl hfree HFR
        by_cases hl : 16 ≤ L.length
        · rw [if_pos hl] at eE
          go_wp2_with fail
          go_ret2
          exact .inr ⟨by rw [eE.out]; omega, by rw [eE.out]; rfl, K1.out.trans KP.out (by simp)⟩
        rw [if_neg hl] at eE
        have hl2 : L.length < 16 := by omega
        clear hl
        go_wp2_with fail
        clear d0 d1
        go_loopw [9, 10, 11] (fun v d i wr => ∃ (k : Nat) (db : Bool) (l : List Ar), k ≤ L.length ∧ i = .int .i64 k ∧ d = .bool db ∧ BldR ⟨xa, xn, xo, xf, xs, xw⟩ (L.take k) db l ∧ OwnL w1 wr v l) (fun _ _ i _ => L.length - (intOf i).toNat)
        case atStart => exact ⟨0, false, [], by omega, rfl, rfl, .inl ⟨rfl, by simp, by simp⟩, OwnL.nil KP.out⟩
        case round =>
          obtain ⟨k, db, l, hk, rfl, rfl, hbl, hO⟩ := hrel
          have HBL := Lib.hid hbl
          have HO := Lib.hid hO
          have KQ := Lib.hid hO.2.1
          have hll : l.length ≤ 20 := by have := hbl.len; rw [List.length_take] at this; omega
          obtain ⟨Av, cv, rfl⟩ := hO.shape
          clear hbl hO KP
          by_cases hlt : k < L.length
          · have HC := Lib.hid (HH.out.keep (K1.out.trans KQ.out (by simp)))
            obtain ⟨bl, off, hAA, -, -⟩ := HC.out.at_ (by omega)
            subst hAA
            obtain ⟨z, hz⟩ : ∃ z, L[k] = z := ⟨_, rfl⟩
            have HCz := Lib.hid (fun (W : World) (kW : Keeps [] w1 W) => (HH.out.keep (K1.out.trans kW (by simp))).cells hlt)
            rw [hz] at HCz
            have hzm : z ∈ L := by rw [← hz]; exact List.getElem_mem hlt
            have hne := ne_at (x := ⟨xa, xn, xo, xf, xs, xw⟩) HFREE.out hzm (vl_vds HVL.out z hzm)
            have hT : L.take (k + 1) = L.take k ++ [z] := by rw [List.take_succ_eq_append_getElem hlt, hz]
            have HT := Lib.hid hT
            clear hzm hz hT
            obtain ⟨za, zn, zo, zf, zs, zw⟩ := z
            dsimp only at hne HCz
            have kz : ∀ W : World, Keeps [] W (W.alloc (.cells #[.int .i64 za, .int .i64 zn, .string zo, .int .i64 zf, .bool zs, .bool zw] 24)) := fun W => (Keeps.refl _ _).alloc _
            cases db with
            | true =>
              go_upto_region 16 with fail
              refine rm16t_any wr L.length c k xb _ _ _ _ _ _ _ _ _ _ _ _ _ _ _ _ _ _ _ _ _ _ _ _ _ _ _ _ _ _ _ _ _ _ _ _ _ _ _ _ _ _ _ _ _ _ _ _ _ _ _ _ _ _ _ _ _ _ _ _ _ _ _ _ _ _ _ _ _ _ _ _ _ ?_
              intro v45 v46 v47 v48 v49 v50 v51 v52 v53 v54 v55 W4 k4
              obtain ⟨c0, c1, c2, c3, c4, c5⟩ := HCz.out W4 (KQ.out.trans k4 (by simp))
              have hr := reads_cells W4 #[.int .i64 za, .int .i64 zn, .string zo, .int .i64 zf, .bool zs, .bool zw] 1 6 24 rfl
              have HR := Lib.hid hr
              have HO2 := Lib.hid ((HO.out.same k4).same (kz W4))
              have HK2 := Lib.hid (kz W4)
              have HBN : Hid (BldR ⟨xa, xn, xo, xf, xs, xw⟩ (L.take (k + 1)) true (l ++ [⟨za, zn, zo, zf, zs, zw⟩])) := Lib.hid (by rw [HT.out]; exact HBL.out.done)
              have KQ4 := Lib.hid (KQ.out.trans k4 (by simp))
              have i0 : (0 : Int) ≤ (k : Int) := by omega
              have i1 : (k : Int) < (L.length : Int) := by omega
              clear hr k4 HBL HO kz
              go_wp2_with (at_builtin; refine wpList_app _ rfl (.tmp 61) (.tmp 66) _ rfl 24 (.agg #[.int .i64 0, .int .i64 0, .string ⟨#[]⟩, .int .i64 0, .bool false, .bool false]) 6 48 Try.underlying22 HI.out rfl (by omega) (.slice Av l.length cv) _ _ rfl HO2.out.1 _ _ 1 1 (acs ⟨za, zn, zo, zf, zs, zw⟩) rfl HR.out (acs_one _) (by unfold maxLen; omega) (by omega) ?_)
              intro v6 w6 o6 k6 f6
              have O6 := Lib.hid (HO2.out.app (Keeps.refl _ _) rfl o6 k6 f6 (by simp))
              clear o6 k6 f6 HO2 HR
              go_wp2_with fail
              go_roundw
              case rel => exact ⟨k + 1, true, _, by omega, by go_num, rfl, HBN.out, O6.out⟩
              case measure => simp [intOf]; omega
            | false =>
              go_upto_region 16 with fail
              refine rm16f_any wr bl off L.length c k xb xa za _ (fun W kW => ⟨(HCz.out W (KQ.out.trans kW (by simp))).1, (B1.out W (KQ.out.trans kW (by simp))).cell 0⟩) hm hlt _ _ _ _ _ _ _ _ _ _ _ _ _ _ _ _ _ _ _ _ _ _ _ _ _ _ _ _ _ _ _ _ _ _ _ _ _ _ _ _ _ _ _ _ _ _ _ _ _ _ _ _ _ _ _ _ _ _ _ _ _ _ _ _ _ _ _ _ _ _ _ ?_
              intro v45 v46 v47 v48 v49 v50 v51 v52 v53 v54 v55 W4 k4
              have i0 : (0 : Int) ≤ (k : Int) := by omega
              have i1 : (k : Int) < (L.length : Int) := by omega
              by_cases hgt : xa < za
              · rw [decide_eq_true hgt]
                have hr := reads_cells W4 #[.int .i64 xa, .int .i64 xn, .string xo, .int .i64 xf, .bool xs, .bool xw] 1 6 24 rfl
                have HR := Lib.hid hr
                have HO2 := Lib.hid ((HO.out.same k4).same ((Keeps.refl [] W4).alloc (.cells #[.int .i64 xa, .int .i64 xn, .string xo, .int .i64 xf, .bool xs, .bool xw] 24)))
                have HBN : Hid (BldR ⟨xa, xn, xo, xf, xs, xw⟩ (L.take (k + 1)) true ((l ++ [⟨xa, xn, xo, xf, xs, xw⟩]) ++ [⟨za, zn, zo, zf, zs, zw⟩])) := Lib.hid (by rw [HT.out]; exact HBL.out.mid (by dsimp only; omega))
                have HKC : Hid (∀ W, Keeps [] W4 W → Keeps [] wr W) := Lib.hid (fun W h => k4.trans h (by simp))
                have bx := B1.out W4 (KQ.out.trans k4 (by simp))
                have e0 : W4.cell? ⟨xb, 0, none⟩ = some (.int .i64 xa) := bx.cell 0
                have e1 : W4.cell? ⟨xb, 1, none⟩ = some (.int .i64 xn) := bx.cell 1
                have e2 : W4.cell? ⟨xb, 2, none⟩ = some (.string xo) := bx.cell 2
                have e3 : W4.cell? ⟨xb, 3, none⟩ = some (.int .i64 xf) := bx.cell 3
                have e4 : W4.cell? ⟨xb, 4, none⟩ = some (.bool xs) := bx.cell 4
                have e5 : W4.cell? ⟨xb, 5, none⟩ = some (.bool xw) := bx.cell 5
                clear hr k4 HBL HO kz bx
                go_wp2_with (at_builtin; refine wpList_app _ rfl (.tmp 57) (.tmp 59) _ rfl 24 (.agg #[.int .i64 0, .int .i64 0, .string ⟨#[]⟩, .int .i64 0, .bool false, .bool false]) 6 48 Try.underlying22 HI.out rfl (by omega) (.slice Av l.length cv) _ _ rfl HO2.out.1 _ _ 1 1 (acs ⟨xa, xn, xo, xf, xs, xw⟩) rfl HR.out (acs_one _) (by unfold maxLen; omega) (by omega) ?_)
                intro v6 w6 o6 k6 f6
                have hO6 := HO2.out.app (Keeps.refl _ _) rfl o6 k6 f6 (by simp)
                clear e0 e1 e2 e3 e4 e5
                obtain ⟨l2, hl2'⟩ : ∃ l2, l ++ [(⟨xa, xn, xo, xf, xs, xw⟩ : Ar)] = l2 := ⟨_, rfl⟩
                have hll2 : l2.length ≤ 21 := by rw [← hl2']; simp; omega
                have e6 : l2.length = l.length + 1 := by rw [← hl2']; simp
                rw [hl2'] at hO6 HBN
                obtain ⟨Av2, cv2, rfl⟩ := hO6.shape
                have k46 : Keeps [] w1 w6 := hO6.2.1
                obtain ⟨c0, c1, c2, c3, c4, c5⟩ := HCz.out w6 k46
                have hr6 := reads_cells w6 #[.int .i64 za, .int .i64 zn, .string zo, .int .i64 zf, .bool zs, .bool zw] 1 6 24 rfl
                have HR6 := Lib.hid hr6
                have HO6 := Lib.hid (hO6.same ((Keeps.refl [] w6).alloc (.cells #[.int .i64 za, .int .i64 zn, .string zo, .int .i64 zf, .bool zs, .bool zw] 24)))
                clear o6 k6 f6 HO2 HR hr6 hO6 k46 hl2'
                clear e6
                go_wp2_with (at_builtin; refine wpList_app _ rfl (.tmp 61) (.tmp 66) _ rfl 24 (.agg #[.int .i64 0, .int .i64 0, .string ⟨#[]⟩, .int .i64 0, .bool false, .bool false]) 6 48 Try.underlying22 HI.out rfl (by omega) (.slice Av2 l2.length cv2) _ _ rfl HO6.out.1 _ _ 1 1 (acs ⟨za, zn, zo, zf, zs, zw⟩) rfl HR6.out (acs_one _) (by unfold maxLen; omega) (by omega) ?_)
                intro v7 w7 o7 k7 f7
                have O7 := Lib.hid (HO6.out.app (Keeps.refl _ _) rfl o7 k7 f7 (by simp))
                clear o7 k7 f7 HO6 HR6
                go_wp2_with fail
                go_roundw
                case rel => exact ⟨k + 1, true, _, by omega, by go_num, rfl, HBN.out, O7.out⟩
                case measure => simp [intOf]; omega
              · rw [decide_eq_false hgt]
                obtain ⟨c0, c1, c2, c3, c4, c5⟩ := HCz.out W4 (KQ.out.trans k4 (by simp))
                have hr := reads_cells W4 #[.int .i64 za, .int .i64 zn, .string zo, .int .i64 zf, .bool zs, .bool zw] 1 6 24 rfl
                have HR := Lib.hid hr
                have HO2 := Lib.hid ((HO.out.same k4).same (kz W4))
                have HBN : Hid (BldR ⟨xa, xn, xo, xf, xs, xw⟩ (L.take (k + 1)) false (l ++ [⟨za, zn, zo, zf, zs, zw⟩])) := Lib.hid (by rw [HT.out]; exact HBL.out.low (by dsimp only; omega))
                clear hr k4 HBL HO kz
                go_wp2_with (at_builtin; refine wpList_app _ rfl (.tmp 61) (.tmp 66) _ rfl 24 (.agg #[.int .i64 0, .int .i64 0, .string ⟨#[]⟩, .int .i64 0, .bool false, .bool false]) 6 48 Try.underlying22 HI.out rfl (by omega) (.slice Av l.length cv) _ _ rfl HO2.out.1 _ _ 1 1 (acs ⟨za, zn, zo, zf, zs, zw⟩) rfl HR.out (acs_one _) (by unfold maxLen; omega) (by omega) ?_)
                intro v6 w6 o6 k6 f6
                have O6 := Lib.hid (HO2.out.app (Keeps.refl _ _) rfl o6 k6 f6 (by simp))
                clear o6 k6 f6 HO2 HR
                go_wp2_with fail
                go_roundw
                case rel => exact ⟨k + 1, false, _, by omega, by go_num, rfl, HBN.out, O6.out⟩
                case measure => simp [intOf]; omega
          · obtain rfl : k = L.length := by omega
            rw [List.take_length] at HBL
            have HOW : Hid (∀ W v l', OwnL w1 W v l' → OwnL w W v l') := Lib.hid (fun W v l' h => ⟨h.1, K1.out.trans h.2.1 (by simp), fun g hg => Nat.le_trans K1.out.size (h.2.2 g hg)⟩)
            cases db with
            | true =>
              have HE : Hid (l = insA ⟨xa, xn, xo, xf, xs, xw⟩ L) := Lib.hid HBL.out.fin'
              go_wp2_with fail
              go_ret2
              exact .inl ⟨eE.out, _, rfl, by rw [← HE.out]; exact HOW.out _ _ _ HO.out⟩
            | false =>
              have HE : Hid (l ++ [⟨xa, xn, xo, xf, xs, xw⟩] = insA ⟨xa, xn, xo, xf, xs, xw⟩ L) := Lib.hid HBL.out.fin
              have hr := reads_cells wr #[.int .i64 xa, .int .i64 xn, .string xo, .int .i64 xf, .bool xs, .bool xw] 1 6 24 rfl
              have HR := Lib.hid hr
              have HO2 := Lib.hid (HO.out.same ((Keeps.refl [] wr).alloc (.cells #[.int .i64 xa, .int .i64 xn, .string xo, .int .i64 xf, .bool xs, .bool xw] 24)))
              have bx := B1.out wr KQ.out
              have e0 : wr.cell? ⟨xb, 0, none⟩ = some (.int .i64 xa) := bx.cell 0
              have e1 : wr.cell? ⟨xb, 1, none⟩ = some (.int .i64 xn) := bx.cell 1
              have e2 : wr.cell? ⟨xb, 2, none⟩ = some (.string xo) := bx.cell 2
              have e3 : wr.cell? ⟨xb, 3, none⟩ = some (.int .i64 xf) := bx.cell 3
              have e4 : wr.cell? ⟨xb, 4, none⟩ = some (.bool xs) := bx.cell 4
              have e5 : wr.cell? ⟨xb, 5, none⟩ = some (.bool xw) := bx.cell 5
              clear hr HBL HO bx
              go_wp2_with (at_builtin; refine wpList_app _ rfl (.tmp 70) (.tmp 72) _ rfl 24 (.agg #[.int .i64 0, .int .i64 0, .string ⟨#[]⟩, .int .i64 0, .bool false, .bool false]) 6 48 Try.underlying22 HI.out rfl (by omega) (.slice Av l.length cv) _ _ rfl HO2.out.1 _ _ 1 1 (acs ⟨xa, xn, xo, xf, xs, xw⟩) rfl HR.out (acs_one _) (by unfold maxLen; omega) (by omega) ?_)
              intro v6 w6 o6 k6 f6
              have O6 := Lib.hid (HO2.out.app (Keeps.refl _ _) rfl o6 k6 f6 (by simp))
              clear o6 k6 f6 HO2 HR e0 e1 e2 e3 e4 e5
              go_wp2_with fail
              go_ret2
              exact .inl ⟨eE.out, _, rfl, by rw [← HE.out]; exact HOW.out _ _ _ O6.out⟩
end Go.Proofs.Ytiffjaociblboaa
