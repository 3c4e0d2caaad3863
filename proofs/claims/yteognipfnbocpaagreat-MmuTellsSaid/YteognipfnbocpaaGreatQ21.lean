/- MmuTells: its two drawn statements (printed by q21gen.py). -/
import Derived.Test.YteognipfnbocpaaGreatQ20
namespace Go.Proofs.YteognipfnbocpaaGreat
open Go.RowKit
open T12 (E ents cells5)
open T13 (En es)

/-- A call, guarded or not, that is wanted. -/
theorem step_callW {P : Program} {ops : Array Oper} {o : Oper} {a : Act} {w : World} {K : Act → World → Prop} {Q : Exit → Act → World → Prop} {E : Prop}
    (hw : Region.wanted o (yielded ops a.tmps) = true) (f : Nat) (xs : Array Operand) (ts : Array TypeId) (hop : o.op = Op.call { callee := .value (.func f), args := xs, argTypes := ts }) (args : Array Value) (hx : xs.map a.eval = args)
    (eg : ∀ args w, (callFunc f args).run P w = .ok (.enter f args) w) {R : Ending → World → Prop} (hC : Calls P f args w R) (hK : ∀ e w', R e w' → ∃ v, e = .returned v ∧ K (a.put o.dst v) w') :
    if Region.wanted o (yielded ops a.tmps) = true then Oper.wp P o a w K Q else E := by
  rw [if_pos hw]
  unfold Oper.wp
  simp only [execOp, hop, resolve, invoke, Sem.run_bind, hx]
  simp [Act.eval, Deferred.ofValue, eg, Result.andThen]
  rw [Oper.upon_enter]
  refine hC.mono ?_
  intro e w' hR
  obtain ⟨v, rfl, h⟩ := hK e w' hR
  exact h
noncomputable def treg14C : Code := ((Tryz.f3.body.bind (theRegion 14)).getD .skip)
set_option maxRecDepth 1000000 in
set_option maxHeartbeats 1600000 in
set_option linter.unusedSimpArgs false in
theorem treg14_any (w : World) (p p2 : Nat) (a b n : Int) (v u : Value) (l : List Int) (K : Exit → Act → World → Prop)
    (hS : ∀ W, Keeps [] w W → W.cell? ⟨p2, 3, none⟩ = some (.int .i64 n))
    (h9 : ∀ W, Keeps [] w W → Calls Tryz.prog 9 #[v, u] W fun e w' => e = .returned (.bool true) ∧ Keeps [] W w')
    (h10 : ∀ W, Keeps [] w W → Calls Tryz.prog 10 #[.pointer (some ⟨p, 0, none⟩)] W fun e w' => e = .returned (.int .i64 n) ∧ Keeps [] W w')
    (h11 : ∀ W, Keeps [] w W → Calls Tryz.prog 11 #[.pointer (some ⟨p, 0, none⟩)] W fun e w' => ∃ v, e = .returned v ∧ w'.ownsRow 0 3 1 v l.length (iv l) ∧ Keeps [] W w')
    (h12 : ∀ W, Keeps [] w W → Calls Tryz.prog 12 #[.pointer (some ⟨p2, 0, none⟩)] W fun e w' => ∃ v, e = .returned v ∧ w'.ownsRow 0 3 1 v l.length (iv l) ∧ Keeps [] W w')
    (u0 u1 u2 u3 u4 u5 u8 u9 u16 u17 u18 u19 u20 u21 u22 u23 u24 u25 u26 u27 u28 u29 u30 u31 u32 u33 u34 u35 u36 u37 u38 u39 u40 u41 u42 u43 u44 u45 u46 u47 u48 u49 u50 u51 u52 u53 u54 u55 u56 u57 u58 u59 u60 u61 u62 u63 u64 u65 u66 u67 u68 u69 u70 u71 u72 u73 u74 u75 u76 u77 u78 u79 u80 u81 u82 u83 u84 u85 u86 u87 u88 u89 u90 u91 u92 u93 u94 u95 u96 u97 u98 u99 u100 u101 u102 u103 u104 u105 u106 u107 u108 u109 u110 u111 u112 u113 u114 u115 u116 u117 u118 u119 u120 u121 u122 u123 u124 u125 u126 u127 u128 u129 u130 u131 u132 u133 u134 u135 u136 u137 u138 u139 u140 : Value)
    (hK : ∀ (v59 v60 v61 v62 v63 v64 v65 v66 v67 v68 v69 v70 v71 v72 v73 v74 v75 v76 v77 v78 v79 v80 v81 v82 v83 v84 v85 v86 v87 v88 : Value) (W : World), Keeps [] w W → K .normal ⟨#[u0, u1, u2, u3, u4, u5, .pointer (some ⟨p, 0, none⟩), .pointer (some ⟨p2, 0, none⟩), u8, u9, .int .i64 a, .int .i64 b, v, .int .i64 a, .int .i64 b, u, u16, u17, u18, u19, u20, u21, u22, u23, u24, u25, u26, u27, u28, u29, u30, u31, u32, u33, u34, u35, u36, u37, u38, u39, u40, u41, u42, u43, u44, u45, u46, u47, u48, u49, u50, u51, u52, u53, u54, u55, u56, u57, u58, v59, v60, v61, v62, v63, v64, v65, v66, v67, v68, v69, v70, v71, v72, v73, v74, v75, v76, v77, v78, v79, v80, v81, v82, v83, v84, v85, v86, v87, v88, .bool false, u90, u91, u92, u93, u94, u95, u96, u97, u98, u99, u100, u101, u102, u103, u104, u105, u106, u107, u108, u109, u110, u111, u112, u113, u114, u115, u116, u117, u118, u119, u120, u121, u122, u123, u124, u125, u126, u127, u128, u129, u130, u131, u132, u133, u134, u135, u136, u137, u138, u139, u140], []⟩ W) :
    Code.wp Tryz.prog treg14C K ⟨#[u0, u1, u2, u3, u4, u5, .pointer (some ⟨p, 0, none⟩), .pointer (some ⟨p2, 0, none⟩), u8, u9, .int .i64 a, .int .i64 b, v, .int .i64 a, .int .i64 b, u, u16, u17, u18, u19, u20, u21, u22, u23, u24, u25, u26, u27, u28, u29, u30, u31, u32, u33, u34, u35, u36, u37, u38, u39, u40, u41, u42, u43, u44, u45, u46, u47, u48, u49, u50, u51, u52, u53, u54, u55, u56, u57, u58, u59, u60, u61, u62, u63, u64, u65, u66, u67, u68, u69, u70, u71, u72, u73, u74, u75, u76, u77, u78, u79, u80, u81, u82, u83, u84, u85, u86, u87, u88, u89, u90, u91, u92, u93, u94, u95, u96, u97, u98, u99, u100, u101, u102, u103, u104, u105, u106, u107, u108, u109, u110, u111, u112, u113, u114, u115, u116, u117, u118, u119, u120, u121, u122, u123, u124, u125, u126, u127, u128, u129, u130, u131, u132, u133, u134, u135, u136, u137, u138, u139, u140], []⟩ w := by
  have HS := Lib.hid hS
  have H9 := Lib.hid h9
  have H10 := Lib.hid h10
  have H11 := Lib.hid h11
  have H12 := Lib.hid h12
  clear hS h9 h10 h11 h12
  conv => arg 2; whnf
  dsimp only at hK ⊢
  refine wp_region_noPanic ?_
  refine wp_region_held_drew (S := fun W => W.cell? ⟨p2, 3, none⟩ = some (.int .i64 n)) (by kernel_rfl) (HS.out _ ((Keeps.refl [] w).drew)) (fun hHeld => ?_)
  obtain ⟨w0, hw0⟩ : ∃ w0, w.drew = w0 := ⟨_, rfl⟩
  rw [hw0] at hHeld ⊢
  have K0 : Keeps [] w w0 := by rw [← hw0]; exact (Keeps.refl [] w).drew
  clear hw0
  refine wpAnyH_take (i := 0) (oi := ⟨some 59, Op.move (Operand.tmp 10), 3, _, _, none⟩) (v := ?vq1) rfl (by kernel_rfl) (by kernel_rfl) (by kernel_rfl) (fun _ _ _ h => h) (Or.inl ⟨by rfl, fun W hW => ?_⟩) (by assumption) ?_
  rotate_left
  · go_simp
    with_reducible rfl
  try simp only [Act.put, List.setIfInBounds_toArray, List.set_cons_zero, List.set_cons_succ]
  refine wpAnyH_take (i := 1) (oi := ⟨some 60, Op.move (Operand.tmp 13), 3, _, _, none⟩) (v := ?vq2) rfl (by kernel_rfl) (by kernel_rfl) (by kernel_rfl) (fun _ _ _ h => h) (Or.inl ⟨by rfl, fun W hW => ?_⟩) (by assumption) ?_
  rotate_left
  · go_simp
    with_reducible rfl
  try simp only [Act.put, List.setIfInBounds_toArray, List.set_cons_zero, List.set_cons_succ]
  refine wpAnyH_take (i := 2) (oi := ⟨some 61, Op.binOp BinOp.neq 3 (Operand.tmp 59) (Operand.tmp 60) 3, 4, _, _, none⟩) (v := .bool false) rfl (by kernel_rfl) (by kernel_rfl) (by kernel_rfl) (fun _ _ _ h => h) (Or.inl ⟨by rfl, fun W hW => ?_⟩) (by assumption) ?_
  · go_simp
  try simp only [Act.put, List.setIfInBounds_toArray, List.set_cons_zero, List.set_cons_succ]
  refine wpAnyH_take (i := 3) (oi := ⟨some 62, Op.move (Operand.tmp 61), 4, _, _, none⟩) (v := .bool false) rfl (by kernel_rfl) (by kernel_rfl) (by kernel_rfl) (fun _ _ _ h => h) (Or.inl ⟨by rfl, fun W hW => ?_⟩) (by assumption) ?_
  · go_simp
  try simp only [Act.put, List.setIfInBounds_toArray, List.set_cons_zero, List.set_cons_succ]
  refine wpAnyH_take (i := 4) (oi := ⟨some 63, Op.move (Operand.tmp 11), 3, _, _, some (3, false)⟩) (v := ?vq3) rfl (by kernel_rfl) (by kernel_rfl) (by kernel_rfl) (fun _ _ _ h => h) (Or.inl ⟨by rfl, fun W hW => ?_⟩) (by assumption) ?_
  rotate_left
  · go_simp
    with_reducible rfl
  try simp only [Act.put, List.setIfInBounds_toArray, List.set_cons_zero, List.set_cons_succ]
  refine wpAnyH_take (i := 5) (oi := ⟨some 64, Op.move (Operand.tmp 14), 3, _, _, some (3, false)⟩) (v := ?vq4) rfl (by kernel_rfl) (by kernel_rfl) (by kernel_rfl) (fun _ _ _ h => h) (Or.inl ⟨by rfl, fun W hW => ?_⟩) (by assumption) ?_
  rotate_left
  · go_simp
    with_reducible rfl
  try simp only [Act.put, List.setIfInBounds_toArray, List.set_cons_zero, List.set_cons_succ]
  refine wpAnyH_take (i := 6) (oi := ⟨some 65, Op.binOp BinOp.neq 3 (Operand.tmp 63) (Operand.tmp 64) 3, 4, _, _, some (3, false)⟩) (v := .bool false) rfl (by kernel_rfl) (by kernel_rfl) (by kernel_rfl) (fun _ _ _ h => h) (Or.inl ⟨by rfl, fun W hW => ?_⟩) (by assumption) ?_
  · go_simp
  try simp only [Act.put, List.setIfInBounds_toArray, List.set_cons_zero, List.set_cons_succ]
  refine wpAnyH_take (i := 7) (oi := ⟨some 66, Op.pick (Operand.tmp 62) (Operand.const (Value.bool true)) (Operand.tmp 65), 4, _, _, none⟩) (v := .bool false) rfl (by kernel_rfl) (by kernel_rfl) (by kernel_rfl) (fun _ _ _ h => h) (Or.inl ⟨by rfl, fun W hW => ?_⟩) (by assumption) ?_
  · go_simp
  try simp only [Act.put, List.setIfInBounds_toArray, List.set_cons_zero, List.set_cons_succ]
  refine wpAnyH_take (i := 8) (oi := ⟨some 67, Op.move (Operand.tmp 66), 4, _, _, none⟩) (v := .bool false) rfl (by kernel_rfl) (by kernel_rfl) (by kernel_rfl) (fun _ _ _ h => h) (Or.inl ⟨by rfl, fun W hW => ?_⟩) (by assumption) ?_
  · go_simp
  try simp only [Act.put, List.setIfInBounds_toArray, List.set_cons_zero, List.set_cons_succ]
  refine wpAnyH_take (i := 9) (oi := ⟨some 68, Op.move (Operand.tmp 12), 30, _, _, some (8, false)⟩) (v := ?vq5) rfl (by kernel_rfl) (by kernel_rfl) (by kernel_rfl) (fun _ _ _ h => h) (Or.inl ⟨by rfl, fun W hW => ?_⟩) (by assumption) ?_
  rotate_left
  · go_simp
    with_reducible rfl
  try simp only [Act.put, List.setIfInBounds_toArray, List.set_cons_zero, List.set_cons_succ]
  refine wpAnyH_take (i := 10) (oi := ⟨some 69, Op.move (Operand.tmp 15), 30, _, _, some (8, false)⟩) (v := ?vq6) rfl (by kernel_rfl) (by kernel_rfl) (by kernel_rfl) (fun _ _ _ h => h) (Or.inl ⟨by rfl, fun W hW => ?_⟩) (by assumption) ?_
  rotate_left
  · go_simp
    with_reducible rfl
  try simp only [Act.put, List.setIfInBounds_toArray, List.set_cons_zero, List.set_cons_succ]
  refine wpAnyH_ready (rs := [11]) (by kernel_rfl) (by simp) ?_
  refine AllReadyH.cons (o := ⟨some 70, Op.call { callee := Callee.value (Operand.func 9), args := #[Operand.tmp 68, Operand.tmp 69], argTypes := #[30, 30] }, 4, _, _, some (8, false)⟩) rfl (fun KK hKK => ?_) AllReadyH.nil
  refine step_callW (by rfl) 9 _ _ rfl #[v, u] (by first | (simp [Act.eval]; done) | (simp [Act.eval, Act.put]; done)) (enters_of Tryz.func9 (by kernel_rfl) rfl) (H9.out _ K0) ?_
  rintro e W7 ⟨rfl, k8⟩
  refine ⟨_, rfl, ?_⟩
  have K9 : Keeps [] w W7 := K0.trans k8 (by simp)
  refine hKK.out _ _ (HS.out _ K9) (fun hHeld => ?_)
  clear hKK KK
  try simp only [Act.put, List.setIfInBounds_toArray, List.set_cons_zero, List.set_cons_succ]
  refine wpAnyH_take (i := 12) (oi := ⟨some 71, Op.unOp UnOp.not 4 (Operand.tmp 70), 4, _, _, some (8, false)⟩) (v := .bool false) rfl (by kernel_rfl) (by kernel_rfl) (by kernel_rfl) (fun _ _ _ h => h) (Or.inl ⟨by rfl, fun W hW => ?_⟩) (by assumption) ?_
  · go_simp
  try simp only [Act.put, List.setIfInBounds_toArray, List.set_cons_zero, List.set_cons_succ]
  refine wpAnyH_take (i := 13) (oi := ⟨some 72, Op.pick (Operand.tmp 67) (Operand.const (Value.bool true)) (Operand.tmp 71), 4, _, _, none⟩) (v := .bool false) rfl (by kernel_rfl) (by kernel_rfl) (by kernel_rfl) (fun _ _ _ h => h) (Or.inl ⟨by rfl, fun W hW => ?_⟩) (by assumption) ?_
  · go_simp
  try simp only [Act.put, List.setIfInBounds_toArray, List.set_cons_zero, List.set_cons_succ]
  refine wpAnyH_take (i := 14) (oi := ⟨some 73, Op.move (Operand.tmp 72), 4, _, _, none⟩) (v := .bool false) rfl (by kernel_rfl) (by kernel_rfl) (by kernel_rfl) (fun _ _ _ h => h) (Or.inl ⟨by rfl, fun W hW => ?_⟩) (by assumption) ?_
  · go_simp
  try simp only [Act.put, List.setIfInBounds_toArray, List.set_cons_zero, List.set_cons_succ]
  refine wpAnyH_take (i := 15) (oi := ⟨some 74, Op.move (Operand.tmp 6), 24, _, _, some (14, false)⟩) (v := ?vq10) rfl (by kernel_rfl) (by kernel_rfl) (by kernel_rfl) (fun _ _ _ h => h) (Or.inl ⟨by rfl, fun W hW => ?_⟩) (by assumption) ?_
  rotate_left
  · go_simp
    with_reducible rfl
  try simp only [Act.put, List.setIfInBounds_toArray, List.set_cons_zero, List.set_cons_succ]
  refine wpAnyH_take (i := 17) (oi := ⟨some 76, Op.move (Operand.tmp 7), 26, _, _, some (14, false)⟩) (v := ?vq11) rfl (by kernel_rfl) (by kernel_rfl) (by kernel_rfl) (fun _ _ _ h => h) (Or.inl ⟨by rfl, fun W hW => ?_⟩) (by assumption) ?_
  rotate_left
  · go_simp
    with_reducible rfl
  try simp only [Act.put, List.setIfInBounds_toArray, List.set_cons_zero, List.set_cons_succ]
  refine wpAnyH_take (i := 18) (oi := ⟨some 77, Op.nilCheck (Operand.tmp 76), 0, _, _, some (14, false)⟩) (v := ?vq12) rfl (by kernel_rfl) (by kernel_rfl) (by kernel_rfl) (fun _ _ _ h => h) (Or.inl ⟨by rfl, fun W hW => ?_⟩) (by assumption) ?_
  rotate_left
  · go_simp
    with_reducible rfl
  try simp only [Act.put, List.setIfInBounds_toArray, List.set_cons_zero, List.set_cons_succ]
  refine wpAnyH_take (i := 19) (oi := ⟨some 78, Op.fieldAddr 39 (Operand.tmp 77) 3, 0, _, _, some (14, false)⟩) (v := ?vq13) rfl (by kernel_rfl) (by kernel_rfl) (by kernel_rfl) (fun _ _ _ h => h) (Or.inl ⟨by rfl, fun W hW => ?_⟩) (by assumption) ?_
  rotate_left
  · go_simp
    with_reducible rfl
  try simp only [Act.put, List.setIfInBounds_toArray, List.set_cons_zero, List.set_cons_succ]
  refine wpAnyH_take (i := 20) (oi := ⟨some 79, Op.load 3 (Operand.tmp 78), 3, _, _, some (14, false)⟩) (v := .int .i64 n) rfl (by kernel_rfl) (by kernel_rfl) (by kernel_rfl) (fun _ _ _ h => h) (Or.inl ⟨by rfl, fun W hW => ?_⟩) (by assumption) ?_
  · go_simp
  try simp only [Act.put, List.setIfInBounds_toArray, List.set_cons_zero, List.set_cons_succ]
  refine wpAnyH_ready (rs := [16]) (by kernel_rfl) (by simp) ?_
  refine AllReadyH.cons (o := ⟨some 75, Op.call { callee := Callee.value (Operand.func 10), args := #[Operand.tmp 74], argTypes := #[24] }, 3, _, _, some (14, false)⟩) rfl (fun KK hKK => ?_) AllReadyH.nil
  refine step_callW (by rfl) 10 _ _ rfl #[.pointer (some ⟨p, 0, none⟩)] (by first | (simp [Act.eval]; done) | (simp [Act.eval, Act.put]; done)) (enters_of Tryz.func10 (by kernel_rfl) rfl) (H10.out _ K9) ?_
  rintro e W14 ⟨rfl, k15⟩
  refine ⟨_, rfl, ?_⟩
  have K16 : Keeps [] w W14 := K9.trans k15 (by simp)
  refine hKK.out _ _ (HS.out _ K16) (fun hHeld => ?_)
  clear hKK KK
  try simp only [Act.put, List.setIfInBounds_toArray, List.set_cons_zero, List.set_cons_succ]
  refine wpAnyH_take (i := 21) (oi := ⟨some 80, Op.binOp BinOp.neq 3 (Operand.tmp 75) (Operand.tmp 79) 3, 4, _, _, some (14, false)⟩) (v := .bool false) rfl (by kernel_rfl) (by kernel_rfl) (by kernel_rfl) (fun _ _ _ h => h) (Or.inl ⟨by rfl, fun W hW => ?_⟩) (by assumption) ?_
  · go_simp
  try simp only [Act.put, List.setIfInBounds_toArray, List.set_cons_zero, List.set_cons_succ]
  refine wpAnyH_take (i := 22) (oi := ⟨some 81, Op.pick (Operand.tmp 73) (Operand.const (Value.bool true)) (Operand.tmp 80), 4, _, _, none⟩) (v := .bool false) rfl (by kernel_rfl) (by kernel_rfl) (by kernel_rfl) (fun _ _ _ h => h) (Or.inl ⟨by rfl, fun W hW => ?_⟩) (by assumption) ?_
  · go_simp
  try simp only [Act.put, List.setIfInBounds_toArray, List.set_cons_zero, List.set_cons_succ]
  refine wpAnyH_take (i := 23) (oi := ⟨some 82, Op.move (Operand.tmp 81), 4, _, _, none⟩) (v := .bool false) rfl (by kernel_rfl) (by kernel_rfl) (by kernel_rfl) (fun _ _ _ h => h) (Or.inl ⟨by rfl, fun W hW => ?_⟩) (by assumption) ?_
  · go_simp
  try simp only [Act.put, List.setIfInBounds_toArray, List.set_cons_zero, List.set_cons_succ]
  refine wpAnyH_take (i := 24) (oi := ⟨some 83, Op.move (Operand.tmp 6), 24, _, _, some (23, false)⟩) (v := ?vq17) rfl (by kernel_rfl) (by kernel_rfl) (by kernel_rfl) (fun _ _ _ h => h) (Or.inl ⟨by rfl, fun W hW => ?_⟩) (by assumption) ?_
  rotate_left
  · go_simp
    with_reducible rfl
  try simp only [Act.put, List.setIfInBounds_toArray, List.set_cons_zero, List.set_cons_succ]
  refine wpAnyH_take (i := 26) (oi := ⟨some 85, Op.move (Operand.tmp 7), 26, _, _, some (23, false)⟩) (v := ?vq18) rfl (by kernel_rfl) (by kernel_rfl) (by kernel_rfl) (fun _ _ _ h => h) (Or.inl ⟨by rfl, fun W hW => ?_⟩) (by assumption) ?_
  rotate_left
  · go_simp
    with_reducible rfl
  try simp only [Act.put, List.setIfInBounds_toArray, List.set_cons_zero, List.set_cons_succ]
  refine wpAnyH_ready (rs := [25]) (by kernel_rfl) (by simp) ?_
  refine AllReadyH.cons (o := ⟨some 84, Op.call { callee := Callee.value (Operand.func 11), args := #[Operand.tmp 83], argTypes := #[24] }, 30, _, _, some (23, false)⟩) rfl (fun KK hKK => ?_) AllReadyH.nil
  refine step_callW (by rfl) 11 _ _ rfl #[.pointer (some ⟨p, 0, none⟩)] (by first | (simp [Act.eval]; done) | (simp [Act.eval, Act.put]; done)) (enters_of Tryz.func11 (by kernel_rfl) rfl) (H11.out _ K16) ?_
  rintro e W19 ⟨v22, rfl, o23, k20⟩
  refine ⟨_, rfl, ?_⟩
  have K21 : Keeps [] w W19 := K16.trans k20 (by simp)
  refine hKK.out _ _ (HS.out _ K21) (fun hHeld => ?_)
  clear hKK KK
  try simp only [Act.put, List.setIfInBounds_toArray, List.set_cons_zero, List.set_cons_succ]
  refine wpAnyH_ready (rs := [27]) (by kernel_rfl) (by simp) ?_
  refine AllReadyH.cons (o := ⟨some 86, Op.call { callee := Callee.value (Operand.func 12), args := #[Operand.tmp 85], argTypes := #[26] }, 30, _, _, some (23, false)⟩) rfl (fun KK hKK => ?_) AllReadyH.nil
  refine step_callW (by rfl) 12 _ _ rfl #[.pointer (some ⟨p2, 0, none⟩)] (by first | (simp [Act.eval]; done) | (simp [Act.eval, Act.put]; done)) (enters_of Tryz.func12 (by kernel_rfl) rfl) (H12.out _ K21) ?_
  rintro e W24 ⟨v27, rfl, o28, k25⟩
  refine ⟨_, rfl, ?_⟩
  have K26 : Keeps [] w W24 := K21.trans k25 (by simp)
  have o29 := own_keep o23 k25 (by simp)
  refine hKK.out _ _ (HS.out _ K26) (fun hHeld => ?_)
  clear hKK KK
  try simp only [Act.put, List.setIfInBounds_toArray, List.set_cons_zero, List.set_cons_succ]
  refine wpAnyH_ready (rs := [28]) (by kernel_rfl) (by simp) ?_
  refine AllReadyH.cons (o := ⟨some 87, Op.call { callee := Callee.value (Operand.func 9), args := #[Operand.tmp 84, Operand.tmp 86], argTypes := #[30, 30] }, 4, _, _, some (23, false)⟩) rfl (fun KK hKK => ?_) AllReadyH.nil
  refine step_callW (by rfl) 9 _ _ rfl #[v22, v27] (by first | (simp [Act.eval]; done) | (simp [Act.eval, Act.put]; done)) (enters_of Tryz.func9 (by kernel_rfl) rfl) (ints_any _ _ _ _ o29 o28) ?_
  rintro e W30 ⟨rfl, k31⟩
  refine ⟨_, rfl, ?_⟩
  have K32 : Keeps [] w W30 := K26.trans k31 (by simp)
  refine hKK.out _ _ (HS.out _ K32) (fun hHeld => ?_)
  clear hKK KK
  try simp only [Act.put, List.setIfInBounds_toArray, List.set_cons_zero, List.set_cons_succ]
  refine wpAnyH_take (i := 29) (oi := ⟨some 88, Op.unOp UnOp.not 4 (Operand.tmp 87), 4, _, _, some (23, false)⟩) (v := .bool false) rfl (by kernel_rfl) (by kernel_rfl) (by kernel_rfl) (fun _ _ _ h => h) (Or.inl ⟨by rfl, fun W hW => ?_⟩) (by assumption) ?_
  · go_simp
  try simp only [Act.put, List.setIfInBounds_toArray, List.set_cons_zero, List.set_cons_succ]
  refine wpAnyH_take (i := 30) (oi := ⟨some 89, Op.pick (Operand.tmp 82) (Operand.const (Value.bool true)) (Operand.tmp 88), 4, _, _, none⟩) (v := .bool false) rfl (by kernel_rfl) (by kernel_rfl) (by kernel_rfl) (fun _ _ _ h => h) (Or.inl ⟨by rfl, fun W hW => ?_⟩) (by assumption) ?_
  · go_simp
  try simp only [Act.put, List.setIfInBounds_toArray, List.set_cons_zero, List.set_cons_succ]
  refine wpAnyH_done (by kernel_rfl) ?_ _
  refine NoPanic.normal ?_
  exact hK _ _ _ _ _ _ _ _ _ _ _ _ _ _ _ _ _ _ _ _ _ _ _ _ _ _ _ _ _ _ _ K32
noncomputable def treg18C : Code := ((Tryz.f3.body.bind (theRegion 18)).getD .skip)
set_option maxRecDepth 1000000 in
set_option maxHeartbeats 1600000 in
set_option linter.unusedSimpArgs false in
theorem treg18_any (w : World) (p p2 xb y1 y2 : Nat) (x0 x1 : Int) (x2 x3 x4 b : Bool) (o : Op) (l : List (Nat × E)) (c : List En) (K : Exit → Act → World → Prop)
    (hS : ∀ W, Keeps [] w W → Blk W y1 42 #[.int .i64 x0, .int .i64 x1, .bool x2, .bool x3, .bool x4] ∧ Blk W y2 42 #[.int .i64 x0, .int .i64 x1, .bool x2, .bool x3, .bool x4] ∧ Blk W xb 29 o.cs)
    (h16 : ∀ W, Keeps [] w W → Calls Tryz.prog 16 #[.pointer (some ⟨p, 0, none⟩), .int .i64 o.x] W fun e w' => ∃ v, e = .returned v ∧ w'.ownsRow 0 42 5 v l.length (cells5 l) ∧ Keeps [] W w')
    (h17 : ∀ W, Keeps [] w W → Calls Tryz.prog 17 #[.pointer (some ⟨p2, 0, none⟩), .int .i64 o.x] W fun e w' => ∃ v, e = .returned v ∧ w'.ownsRow 0 42 5 v l.length (cells5 l) ∧ Keeps [] W w')
    (h19 : ∀ W, Keeps [] w W → Calls Tryz.prog 19 #[.pointer (some ⟨p, 0, none⟩), .int .i64 o.cpu] W fun e w' => ∃ v, e = .returned v ∧ w'.ownsRow 0 83 4 v c.length (es c) ∧ Keeps [] W w')
    (h20 : ∀ W, Keeps [] w W → Calls Tryz.prog 20 #[.pointer (some ⟨p2, 0, none⟩), .int .i64 o.cpu] W fun e w' => ∃ v, e = .returned v ∧ w'.ownsRow 0 83 4 v c.length (es c) ∧ Keeps [] W w')
    (u0 u1 u2 u3 u4 u5 u8 u10 u11 u12 u13 u14 u15 u20 u21 u22 u23 u24 u25 u26 u27 u28 u29 u30 u31 u32 u33 u34 u35 u36 u37 u38 u39 u40 u41 u42 u43 u44 u45 u46 u47 u48 u49 u50 u51 u52 u53 u54 u55 u56 u57 u58 u59 u60 u61 u62 u63 u64 u65 u66 u67 u68 u69 u70 u71 u72 u73 u74 u75 u76 u77 u78 u79 u80 u81 u82 u83 u84 u85 u86 u87 u88 u89 u90 u91 u92 u93 u94 u95 u96 u97 u98 u99 u100 u101 u102 u103 u104 u105 u106 u107 u108 u109 u110 u111 u112 u113 u114 u115 u116 u117 u118 u119 u120 u121 u122 u123 u124 u125 u126 u127 u128 u129 u130 u131 u132 u133 u134 u135 u136 u137 u138 u139 u140 : Value)
    (hK : ∀ (v108 v109 v110 v111 v112 v113 v114 v115 v116 v117 v118 v119 v120 v121 v122 v123 v124 v125 v126 v127 v128 v129 v130 v131 v132 v133 v134 v135 v136 v137 v138 : Value) (W : World), Keeps [] w W → K .normal ⟨#[u0, u1, u2, u3, u4, u5, .pointer (some ⟨p, 0, none⟩), .pointer (some ⟨p2, 0, none⟩), u8, .pointer (some ⟨xb, 0, none⟩), u10, u11, u12, u13, u14, u15, .pointer (some ⟨y1, 0, none⟩), .bool b, .pointer (some ⟨y2, 0, none⟩), .bool b, u20, u21, u22, u23, u24, u25, u26, u27, u28, u29, u30, u31, u32, u33, u34, u35, u36, u37, u38, u39, u40, u41, u42, u43, u44, u45, u46, u47, u48, u49, u50, u51, u52, u53, u54, u55, u56, u57, u58, u59, u60, u61, u62, u63, u64, u65, u66, u67, u68, u69, u70, u71, u72, u73, u74, u75, u76, u77, u78, u79, u80, u81, u82, u83, u84, u85, u86, u87, u88, u89, u90, u91, u92, u93, u94, u95, u96, u97, u98, u99, u100, u101, u102, u103, u104, u105, u106, u107, v108, v109, v110, v111, v112, v113, v114, v115, v116, v117, v118, v119, v120, v121, v122, v123, v124, v125, v126, v127, v128, v129, v130, v131, v132, v133, v134, v135, v136, v137, v138, .bool false, u140], []⟩ W) :
    Code.wp Tryz.prog treg18C K ⟨#[u0, u1, u2, u3, u4, u5, .pointer (some ⟨p, 0, none⟩), .pointer (some ⟨p2, 0, none⟩), u8, .pointer (some ⟨xb, 0, none⟩), u10, u11, u12, u13, u14, u15, .pointer (some ⟨y1, 0, none⟩), .bool b, .pointer (some ⟨y2, 0, none⟩), .bool b, u20, u21, u22, u23, u24, u25, u26, u27, u28, u29, u30, u31, u32, u33, u34, u35, u36, u37, u38, u39, u40, u41, u42, u43, u44, u45, u46, u47, u48, u49, u50, u51, u52, u53, u54, u55, u56, u57, u58, u59, u60, u61, u62, u63, u64, u65, u66, u67, u68, u69, u70, u71, u72, u73, u74, u75, u76, u77, u78, u79, u80, u81, u82, u83, u84, u85, u86, u87, u88, u89, u90, u91, u92, u93, u94, u95, u96, u97, u98, u99, u100, u101, u102, u103, u104, u105, u106, u107, u108, u109, u110, u111, u112, u113, u114, u115, u116, u117, u118, u119, u120, u121, u122, u123, u124, u125, u126, u127, u128, u129, u130, u131, u132, u133, u134, u135, u136, u137, u138, u139, u140], []⟩ w := by
  have HS := Lib.hid hS
  have H16 := Lib.hid h16
  have H17 := Lib.hid h17
  have H19 := Lib.hid h19
  have H20 := Lib.hid h20
  clear hS h16 h17 h19 h20
  conv => arg 2; whnf
  dsimp only at hK ⊢
  refine wp_region_noPanic ?_
  refine wp_region_held_drew (S := fun W => Blk W y1 42 #[.int .i64 x0, .int .i64 x1, .bool x2, .bool x3, .bool x4] ∧ Blk W y2 42 #[.int .i64 x0, .int .i64 x1, .bool x2, .bool x3, .bool x4] ∧ Blk W xb 29 o.cs) (by kernel_rfl) (HS.out _ ((Keeps.refl [] w).drew)) (fun hHeld => ?_)
  obtain ⟨w0, hw0⟩ : ∃ w0, w.drew = w0 := ⟨_, rfl⟩
  rw [hw0] at hHeld ⊢
  have K0 : Keeps [] w w0 := by rw [← hw0]; exact (Keeps.refl [] w).drew
  clear hw0
  refine wpAnyH_take (i := 0) (oi := ⟨some 108, Op.load 42 (Operand.tmp 16), 42, _, _, none⟩) (v := .agg #[.int .i64 x0, .int .i64 x1, .bool x2, .bool x3, .bool x4]) rfl (by kernel_rfl) (by kernel_rfl) (by kernel_rfl) (fun _ _ _ h => h) (Or.inl ⟨by rfl, fun W hW => ?_⟩) (by assumption) ?_
  · (obtain ⟨q1, q2, q3⟩ := hW; have a0 := q1.cell 0; have a1 := q1.cell 1; have a2 := q1.cell 2; have a3 := q1.cell 3; have a4 := q1.cell 4; have b0 := q2.cell 0; have b1 := q2.cell 1; have b2 := q2.cell 2; have b3 := q2.cell 3; have b4 := q2.cell 4; have c1 := q3.cell 1; have c2 := q3.cell 2; clear q1 q2 q3; unfold Op.cs at c1 c2; go_simp)
  try simp only [Act.put, List.setIfInBounds_toArray, List.set_cons_zero, List.set_cons_succ]
  refine wpAnyH_take (i := 1) (oi := ⟨some 109, Op.load 42 (Operand.tmp 18), 42, _, _, none⟩) (v := .agg #[.int .i64 x0, .int .i64 x1, .bool x2, .bool x3, .bool x4]) rfl (by kernel_rfl) (by kernel_rfl) (by kernel_rfl) (fun _ _ _ h => h) (Or.inl ⟨by rfl, fun W hW => ?_⟩) (by assumption) ?_
  · (obtain ⟨q1, q2, q3⟩ := hW; have a0 := q1.cell 0; have a1 := q1.cell 1; have a2 := q1.cell 2; have a3 := q1.cell 3; have a4 := q1.cell 4; have b0 := q2.cell 0; have b1 := q2.cell 1; have b2 := q2.cell 2; have b3 := q2.cell 3; have b4 := q2.cell 4; have c1 := q3.cell 1; have c2 := q3.cell 2; clear q1 q2 q3; unfold Op.cs at c1 c2; go_simp)
  try simp only [Act.put, List.setIfInBounds_toArray, List.set_cons_zero, List.set_cons_succ]
  refine wpAnyH_take (i := 2) (oi := ⟨some 110, Op.binOp BinOp.neq 42 (Operand.tmp 108) (Operand.tmp 109) 42, 4, _, _, none⟩) (v := .bool false) rfl (by kernel_rfl) (by kernel_rfl) (by kernel_rfl) (fun _ _ _ h => h) (Or.inl ⟨by rfl, fun W hW => ?_⟩) (by assumption) ?_
  · go_simp
  try simp only [Act.put, List.setIfInBounds_toArray, List.set_cons_zero, List.set_cons_succ]
  refine wpAnyH_take (i := 3) (oi := ⟨some 111, Op.move (Operand.tmp 110), 4, _, _, none⟩) (v := .bool false) rfl (by kernel_rfl) (by kernel_rfl) (by kernel_rfl) (fun _ _ _ h => h) (Or.inl ⟨by rfl, fun W hW => ?_⟩) (by assumption) ?_
  · go_simp
  try simp only [Act.put, List.setIfInBounds_toArray, List.set_cons_zero, List.set_cons_succ]
  refine wpAnyH_take (i := 4) (oi := ⟨some 112, Op.move (Operand.tmp 17), 4, _, _, some (3, false)⟩) (v := ?vq33) rfl (by kernel_rfl) (by kernel_rfl) (by kernel_rfl) (fun _ _ _ h => h) (Or.inl ⟨by rfl, fun W hW => ?_⟩) (by assumption) ?_
  rotate_left
  · go_simp
    with_reducible rfl
  try simp only [Act.put, List.setIfInBounds_toArray, List.set_cons_zero, List.set_cons_succ]
  refine wpAnyH_take (i := 5) (oi := ⟨some 113, Op.move (Operand.tmp 19), 4, _, _, some (3, false)⟩) (v := ?vq34) rfl (by kernel_rfl) (by kernel_rfl) (by kernel_rfl) (fun _ _ _ h => h) (Or.inl ⟨by rfl, fun W hW => ?_⟩) (by assumption) ?_
  rotate_left
  · go_simp
    with_reducible rfl
  try simp only [Act.put, List.setIfInBounds_toArray, List.set_cons_zero, List.set_cons_succ]
  refine wpAnyH_take (i := 6) (oi := ⟨some 114, Op.binOp BinOp.neq 4 (Operand.tmp 112) (Operand.tmp 113) 4, 4, _, _, some (3, false)⟩) (v := .bool false) rfl (by kernel_rfl) (by kernel_rfl) (by kernel_rfl) (fun _ _ _ h => h) (Or.inl ⟨by rfl, fun W hW => ?_⟩) (by assumption) ?_
  · go_simp
  try simp only [Act.put, List.setIfInBounds_toArray, List.set_cons_zero, List.set_cons_succ]
  refine wpAnyH_take (i := 7) (oi := ⟨some 115, Op.pick (Operand.tmp 111) (Operand.const (Value.bool true)) (Operand.tmp 114), 4, _, _, none⟩) (v := .bool false) rfl (by kernel_rfl) (by kernel_rfl) (by kernel_rfl) (fun _ _ _ h => h) (Or.inl ⟨by rfl, fun W hW => ?_⟩) (by assumption) ?_
  · go_simp
  try simp only [Act.put, List.setIfInBounds_toArray, List.set_cons_zero, List.set_cons_succ]
  refine wpAnyH_take (i := 8) (oi := ⟨some 116, Op.move (Operand.tmp 115), 4, _, _, none⟩) (v := .bool false) rfl (by kernel_rfl) (by kernel_rfl) (by kernel_rfl) (fun _ _ _ h => h) (Or.inl ⟨by rfl, fun W hW => ?_⟩) (by assumption) ?_
  · go_simp
  try simp only [Act.put, List.setIfInBounds_toArray, List.set_cons_zero, List.set_cons_succ]
  refine wpAnyH_take (i := 9) (oi := ⟨some 117, Op.move (Operand.tmp 6), 24, _, _, some (8, false)⟩) (v := ?vq35) rfl (by kernel_rfl) (by kernel_rfl) (by kernel_rfl) (fun _ _ _ h => h) (Or.inl ⟨by rfl, fun W hW => ?_⟩) (by assumption) ?_
  rotate_left
  · go_simp
    with_reducible rfl
  try simp only [Act.put, List.setIfInBounds_toArray, List.set_cons_zero, List.set_cons_succ]
  refine wpAnyH_take (i := 10) (oi := ⟨some 118, Op.fieldAddr 29 (Operand.tmp 9) 2, 0, _, _, some (8, false)⟩) (v := ?vq36) rfl (by kernel_rfl) (by kernel_rfl) (by kernel_rfl) (fun _ _ _ h => h) (Or.inl ⟨by rfl, fun W hW => ?_⟩) (by assumption) ?_
  rotate_left
  · go_simp
    with_reducible rfl
  try simp only [Act.put, List.setIfInBounds_toArray, List.set_cons_zero, List.set_cons_succ]
  refine wpAnyH_take (i := 11) (oi := ⟨some 119, Op.load 3 (Operand.tmp 118), 3, _, _, some (8, false)⟩) (v := .int .i64 o.x) rfl (by kernel_rfl) (by kernel_rfl) (by kernel_rfl) (fun _ _ _ h => h) (Or.inl ⟨by rfl, fun W hW => ?_⟩) (by assumption) ?_
  · (obtain ⟨q1, q2, q3⟩ := hW; have a0 := q1.cell 0; have a1 := q1.cell 1; have a2 := q1.cell 2; have a3 := q1.cell 3; have a4 := q1.cell 4; have b0 := q2.cell 0; have b1 := q2.cell 1; have b2 := q2.cell 2; have b3 := q2.cell 3; have b4 := q2.cell 4; have c1 := q3.cell 1; have c2 := q3.cell 2; clear q1 q2 q3; unfold Op.cs at c1 c2; go_simp)
  try simp only [Act.put, List.setIfInBounds_toArray, List.set_cons_zero, List.set_cons_succ]
  refine wpAnyH_take (i := 13) (oi := ⟨some 121, Op.move (Operand.tmp 7), 26, _, _, some (8, false)⟩) (v := ?vq37) rfl (by kernel_rfl) (by kernel_rfl) (by kernel_rfl) (fun _ _ _ h => h) (Or.inl ⟨by rfl, fun W hW => ?_⟩) (by assumption) ?_
  rotate_left
  · go_simp
    with_reducible rfl
  try simp only [Act.put, List.setIfInBounds_toArray, List.set_cons_zero, List.set_cons_succ]
  refine wpAnyH_take (i := 14) (oi := ⟨some 122, Op.fieldAddr 29 (Operand.tmp 9) 2, 0, _, _, some (8, false)⟩) (v := ?vq38) rfl (by kernel_rfl) (by kernel_rfl) (by kernel_rfl) (fun _ _ _ h => h) (Or.inl ⟨by rfl, fun W hW => ?_⟩) (by assumption) ?_
  rotate_left
  · go_simp
    with_reducible rfl
  try simp only [Act.put, List.setIfInBounds_toArray, List.set_cons_zero, List.set_cons_succ]
  refine wpAnyH_take (i := 15) (oi := ⟨some 123, Op.load 3 (Operand.tmp 122), 3, _, _, some (8, false)⟩) (v := .int .i64 o.x) rfl (by kernel_rfl) (by kernel_rfl) (by kernel_rfl) (fun _ _ _ h => h) (Or.inl ⟨by rfl, fun W hW => ?_⟩) (by assumption) ?_
  · (obtain ⟨q1, q2, q3⟩ := hW; have a0 := q1.cell 0; have a1 := q1.cell 1; have a2 := q1.cell 2; have a3 := q1.cell 3; have a4 := q1.cell 4; have b0 := q2.cell 0; have b1 := q2.cell 1; have b2 := q2.cell 2; have b3 := q2.cell 3; have b4 := q2.cell 4; have c1 := q3.cell 1; have c2 := q3.cell 2; clear q1 q2 q3; unfold Op.cs at c1 c2; go_simp)
  try simp only [Act.put, List.setIfInBounds_toArray, List.set_cons_zero, List.set_cons_succ]
  refine wpAnyH_ready (rs := [12]) (by kernel_rfl) (by simp) ?_
  refine AllReadyH.cons (o := ⟨some 120, Op.call { callee := Callee.value (Operand.func 16), args := #[Operand.tmp 117, Operand.tmp 119], argTypes := #[24, 3] }, 46, _, _, some (8, false)⟩) rfl (fun KK hKK => ?_) AllReadyH.nil
  refine step_callW (by rfl) 16 _ _ rfl #[.pointer (some ⟨p, 0, none⟩), .int .i64 o.x] (by first | (simp [Act.eval]; done) | (simp [Act.eval, Act.put]; done)) (enters_of Tryz.func16 (by kernel_rfl) rfl) (H16.out _ K0) ?_
  rintro e W39 ⟨v42, rfl, o43, k40⟩
  refine ⟨_, rfl, ?_⟩
  have K41 : Keeps [] w W39 := K0.trans k40 (by simp)
  refine hKK.out _ _ (HS.out _ K41) (fun hHeld => ?_)
  clear hKK KK
  try simp only [Act.put, List.setIfInBounds_toArray, List.set_cons_zero, List.set_cons_succ]
  refine wpAnyH_ready (rs := [16]) (by kernel_rfl) (by simp) ?_
  refine AllReadyH.cons (o := ⟨some 124, Op.call { callee := Callee.value (Operand.func 17), args := #[Operand.tmp 121, Operand.tmp 123], argTypes := #[26, 3] }, 46, _, _, some (8, false)⟩) rfl (fun KK hKK => ?_) AllReadyH.nil
  refine step_callW (by rfl) 17 _ _ rfl #[.pointer (some ⟨p2, 0, none⟩), .int .i64 o.x] (by first | (simp [Act.eval]; done) | (simp [Act.eval, Act.put]; done)) (enters_of Tryz.func17 (by kernel_rfl) rfl) (H17.out _ K41) ?_
  rintro e W44 ⟨v47, rfl, o48, k45⟩
  refine ⟨_, rfl, ?_⟩
  have K46 : Keeps [] w W44 := K41.trans k45 (by simp)
  have o49 := own_keep o43 k45 (by simp)
  refine hKK.out _ _ (HS.out _ K46) (fun hHeld => ?_)
  clear hKK KK
  try simp only [Act.put, List.setIfInBounds_toArray, List.set_cons_zero, List.set_cons_succ]
  refine wpAnyH_ready (rs := [17]) (by kernel_rfl) (by simp) ?_
  refine AllReadyH.cons (o := ⟨some 125, Op.call { callee := Callee.value (Operand.func 15), args := #[Operand.tmp 120, Operand.tmp 124], argTypes := #[46, 46] }, 4, _, _, some (8, false)⟩) rfl (fun KK hKK => ?_) AllReadyH.nil
  refine step_callW (by rfl) 15 _ _ rfl #[v42, v47] (by first | (simp [Act.eval]; done) | (simp [Act.eval, Act.put]; done)) (enters_of Tryz.func15 (by kernel_rfl) rfl) (same5_any _ _ _ _ o49 o48) ?_
  rintro e W50 ⟨rfl, k51⟩
  refine ⟨_, rfl, ?_⟩
  have K52 : Keeps [] w W50 := K46.trans k51 (by simp)
  refine hKK.out _ _ (HS.out _ K52) (fun hHeld => ?_)
  clear hKK KK
  try simp only [Act.put, List.setIfInBounds_toArray, List.set_cons_zero, List.set_cons_succ]
  refine wpAnyH_take (i := 18) (oi := ⟨some 126, Op.unOp UnOp.not 4 (Operand.tmp 125), 4, _, _, some (8, false)⟩) (v := .bool false) rfl (by kernel_rfl) (by kernel_rfl) (by kernel_rfl) (fun _ _ _ h => h) (Or.inl ⟨by rfl, fun W hW => ?_⟩) (by assumption) ?_
  · go_simp
  try simp only [Act.put, List.setIfInBounds_toArray, List.set_cons_zero, List.set_cons_succ]
  refine wpAnyH_take (i := 19) (oi := ⟨some 127, Op.pick (Operand.tmp 116) (Operand.const (Value.bool true)) (Operand.tmp 126), 4, _, _, none⟩) (v := .bool false) rfl (by kernel_rfl) (by kernel_rfl) (by kernel_rfl) (fun _ _ _ h => h) (Or.inl ⟨by rfl, fun W hW => ?_⟩) (by assumption) ?_
  · go_simp
  try simp only [Act.put, List.setIfInBounds_toArray, List.set_cons_zero, List.set_cons_succ]
  refine wpAnyH_take (i := 20) (oi := ⟨some 128, Op.move (Operand.tmp 127), 4, _, _, none⟩) (v := .bool false) rfl (by kernel_rfl) (by kernel_rfl) (by kernel_rfl) (fun _ _ _ h => h) (Or.inl ⟨by rfl, fun W hW => ?_⟩) (by assumption) ?_
  · go_simp
  try simp only [Act.put, List.setIfInBounds_toArray, List.set_cons_zero, List.set_cons_succ]
  refine wpAnyH_take (i := 21) (oi := ⟨some 129, Op.move (Operand.tmp 6), 24, _, _, some (20, false)⟩) (v := ?vq53) rfl (by kernel_rfl) (by kernel_rfl) (by kernel_rfl) (fun _ _ _ h => h) (Or.inl ⟨by rfl, fun W hW => ?_⟩) (by assumption) ?_
  rotate_left
  · go_simp
    with_reducible rfl
  try simp only [Act.put, List.setIfInBounds_toArray, List.set_cons_zero, List.set_cons_succ]
  refine wpAnyH_take (i := 22) (oi := ⟨some 130, Op.fieldAddr 29 (Operand.tmp 9) 1, 0, _, _, some (20, false)⟩) (v := ?vq54) rfl (by kernel_rfl) (by kernel_rfl) (by kernel_rfl) (fun _ _ _ h => h) (Or.inl ⟨by rfl, fun W hW => ?_⟩) (by assumption) ?_
  rotate_left
  · go_simp
    with_reducible rfl
  try simp only [Act.put, List.setIfInBounds_toArray, List.set_cons_zero, List.set_cons_succ]
  refine wpAnyH_take (i := 23) (oi := ⟨some 131, Op.load 3 (Operand.tmp 130), 3, _, _, some (20, false)⟩) (v := .int .i64 o.cpu) rfl (by kernel_rfl) (by kernel_rfl) (by kernel_rfl) (fun _ _ _ h => h) (Or.inl ⟨by rfl, fun W hW => ?_⟩) (by assumption) ?_
  · (obtain ⟨q1, q2, q3⟩ := hW; have a0 := q1.cell 0; have a1 := q1.cell 1; have a2 := q1.cell 2; have a3 := q1.cell 3; have a4 := q1.cell 4; have b0 := q2.cell 0; have b1 := q2.cell 1; have b2 := q2.cell 2; have b3 := q2.cell 3; have b4 := q2.cell 4; have c1 := q3.cell 1; have c2 := q3.cell 2; clear q1 q2 q3; unfold Op.cs at c1 c2; go_simp)
  try simp only [Act.put, List.setIfInBounds_toArray, List.set_cons_zero, List.set_cons_succ]
  refine wpAnyH_take (i := 25) (oi := ⟨some 133, Op.move (Operand.tmp 7), 26, _, _, some (20, false)⟩) (v := ?vq55) rfl (by kernel_rfl) (by kernel_rfl) (by kernel_rfl) (fun _ _ _ h => h) (Or.inl ⟨by rfl, fun W hW => ?_⟩) (by assumption) ?_
  rotate_left
  · go_simp
    with_reducible rfl
  try simp only [Act.put, List.setIfInBounds_toArray, List.set_cons_zero, List.set_cons_succ]
  refine wpAnyH_take (i := 26) (oi := ⟨some 134, Op.fieldAddr 29 (Operand.tmp 9) 1, 0, _, _, some (20, false)⟩) (v := ?vq56) rfl (by kernel_rfl) (by kernel_rfl) (by kernel_rfl) (fun _ _ _ h => h) (Or.inl ⟨by rfl, fun W hW => ?_⟩) (by assumption) ?_
  rotate_left
  · go_simp
    with_reducible rfl
  try simp only [Act.put, List.setIfInBounds_toArray, List.set_cons_zero, List.set_cons_succ]
  refine wpAnyH_take (i := 27) (oi := ⟨some 135, Op.load 3 (Operand.tmp 134), 3, _, _, some (20, false)⟩) (v := .int .i64 o.cpu) rfl (by kernel_rfl) (by kernel_rfl) (by kernel_rfl) (fun _ _ _ h => h) (Or.inl ⟨by rfl, fun W hW => ?_⟩) (by assumption) ?_
  · (obtain ⟨q1, q2, q3⟩ := hW; have a0 := q1.cell 0; have a1 := q1.cell 1; have a2 := q1.cell 2; have a3 := q1.cell 3; have a4 := q1.cell 4; have b0 := q2.cell 0; have b1 := q2.cell 1; have b2 := q2.cell 2; have b3 := q2.cell 3; have b4 := q2.cell 4; have c1 := q3.cell 1; have c2 := q3.cell 2; clear q1 q2 q3; unfold Op.cs at c1 c2; go_simp)
  try simp only [Act.put, List.setIfInBounds_toArray, List.set_cons_zero, List.set_cons_succ]
  refine wpAnyH_ready (rs := [24]) (by kernel_rfl) (by simp) ?_
  refine AllReadyH.cons (o := ⟨some 132, Op.call { callee := Callee.value (Operand.func 19), args := #[Operand.tmp 129, Operand.tmp 131], argTypes := #[24, 3] }, 49, _, _, some (20, false)⟩) rfl (fun KK hKK => ?_) AllReadyH.nil
  refine step_callW (by rfl) 19 _ _ rfl #[.pointer (some ⟨p, 0, none⟩), .int .i64 o.cpu] (by first | (simp [Act.eval]; done) | (simp [Act.eval, Act.put]; done)) (enters_of Tryz.func19 (by kernel_rfl) rfl) (H19.out _ K52) ?_
  rintro e W57 ⟨v60, rfl, o61, k58⟩
  refine ⟨_, rfl, ?_⟩
  have K59 : Keeps [] w W57 := K52.trans k58 (by simp)
  refine hKK.out _ _ (HS.out _ K59) (fun hHeld => ?_)
  clear hKK KK
  try simp only [Act.put, List.setIfInBounds_toArray, List.set_cons_zero, List.set_cons_succ]
  refine wpAnyH_ready (rs := [28]) (by kernel_rfl) (by simp) ?_
  refine AllReadyH.cons (o := ⟨some 136, Op.call { callee := Callee.value (Operand.func 20), args := #[Operand.tmp 133, Operand.tmp 135], argTypes := #[26, 3] }, 49, _, _, some (20, false)⟩) rfl (fun KK hKK => ?_) AllReadyH.nil
  refine step_callW (by rfl) 20 _ _ rfl #[.pointer (some ⟨p2, 0, none⟩), .int .i64 o.cpu] (by first | (simp [Act.eval]; done) | (simp [Act.eval, Act.put]; done)) (enters_of Tryz.func20 (by kernel_rfl) rfl) (H20.out _ K59) ?_
  rintro e W62 ⟨v65, rfl, o66, k63⟩
  refine ⟨_, rfl, ?_⟩
  have K64 : Keeps [] w W62 := K59.trans k63 (by simp)
  have o67 := own_keep o61 k63 (by simp)
  refine hKK.out _ _ (HS.out _ K64) (fun hHeld => ?_)
  clear hKK KK
  try simp only [Act.put, List.setIfInBounds_toArray, List.set_cons_zero, List.set_cons_succ]
  refine wpAnyH_ready (rs := [29]) (by kernel_rfl) (by simp) ?_
  refine AllReadyH.cons (o := ⟨some 137, Op.call { callee := Callee.value (Operand.func 18), args := #[Operand.tmp 132, Operand.tmp 136], argTypes := #[49, 49] }, 4, _, _, some (20, false)⟩) rfl (fun KK hKK => ?_) AllReadyH.nil
  refine step_callW (by rfl) 18 _ _ rfl #[v60, v65] (by first | (simp [Act.eval]; done) | (simp [Act.eval, Act.put]; done)) (enters_of Tryz.func18 (by kernel_rfl) rfl) (T13.same_any _ _ _ _ o67 o66) ?_
  rintro e W68 ⟨rfl, k69⟩
  refine ⟨_, rfl, ?_⟩
  have K70 : Keeps [] w W68 := K64.trans k69 (by simp)
  refine hKK.out _ _ (HS.out _ K70) (fun hHeld => ?_)
  clear hKK KK
  try simp only [Act.put, List.setIfInBounds_toArray, List.set_cons_zero, List.set_cons_succ]
  refine wpAnyH_take (i := 30) (oi := ⟨some 138, Op.unOp UnOp.not 4 (Operand.tmp 137), 4, _, _, some (20, false)⟩) (v := .bool false) rfl (by kernel_rfl) (by kernel_rfl) (by kernel_rfl) (fun _ _ _ h => h) (Or.inl ⟨by rfl, fun W hW => ?_⟩) (by assumption) ?_
  · go_simp
  try simp only [Act.put, List.setIfInBounds_toArray, List.set_cons_zero, List.set_cons_succ]
  refine wpAnyH_take (i := 31) (oi := ⟨some 139, Op.pick (Operand.tmp 128) (Operand.const (Value.bool true)) (Operand.tmp 138), 4, _, _, none⟩) (v := .bool false) rfl (by kernel_rfl) (by kernel_rfl) (by kernel_rfl) (fun _ _ _ h => h) (Or.inl ⟨by rfl, fun W hW => ?_⟩) (by assumption) ?_
  · go_simp
  try simp only [Act.put, List.setIfInBounds_toArray, List.set_cons_zero, List.set_cons_succ]
  refine wpAnyH_done (by kernel_rfl) ?_ _
  refine NoPanic.normal ?_
  exact hK _ _ _ _ _ _ _ _ _ _ _ _ _ _ _ _ _ _ _ _ _ _ _ _ _ _ _ _ _ _ _ _ K70
end Go.Proofs.YteognipfnbocpaaGreat
