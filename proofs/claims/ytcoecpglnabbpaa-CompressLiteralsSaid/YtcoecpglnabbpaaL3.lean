/- CompressLiterals: the statement that packs the replaced page. -/
import Derived.Test.YtcoecpglnabbpaaR1
import Derived.Test.YtcoecpglnabbpaaP4
import Derived.Deep.RegionHeld3
namespace Go.Proofs.Ytcoecpglnabbpaa
open Go.RowKit

theorem u8_cut (k : Nat) : IntKind.u8.wrap (k : Int) = ((UInt8.ofNat k).toNat : Int) := by
  rw [IntKind.wrap_u8]
  simp [UInt8.toNat_ofNat']

theorem step_call {P : Program} {ops : Array Oper} {o : Oper} {a : Act} {w : World} {K : Act → World → Prop} {Q : Exit → Act → World → Prop} {E : Prop}
    (hg : o.guard = none) (f : Nat) (xs : Array Operand) (ts : Array TypeId) (hop : o.op = Op.call { callee := .value (.func f), args := xs, argTypes := ts }) (args : Array Value) (hx : xs.map a.eval = args)
    (eg : ∀ args w, (callFunc f args).run P w = .ok (.enter f args) w) {R : Ending → World → Prop} (hC : Calls P f args w R) (hK : ∀ e w', R e w' → ∃ v, e = .returned v ∧ K (a.put o.dst v) w') :
    if Region.wanted o (yielded ops a.tmps) = true then Oper.wp P o a w K Q else E := by
  have hw : Region.wanted o (yielded ops a.tmps) = true := by simp [Region.wanted, hg]
  rw [if_pos hw]
  unfold Oper.wp
  simp only [execOp, hop, resolve, invoke, Sem.run_bind, hx]
  simp [Act.eval, Deferred.ofValue, eg, Result.andThen]
  rw [Oper.upon_enter]
  refine hC.mono ?_
  intro e w' hR
  obtain ⟨v, rfl, h⟩ := hK e w' hR
  exact h
noncomputable def lreg14 : Code := ((Try.f6.body.bind (theRegion 14)).getD .skip)

set_option maxRecDepth 1000000 in
set_option maxHeartbeats 400000 in
set_option linter.unusedSimpArgs false in
theorem lreg14_any (w : World) (m g cv nl : Nat) (lv : Int) (s1 s2 t : ByteArray) (K : Exit → Act → World → Prop) (hm1 : 1 ≤ m) (hm2 : m ≤ 32) (hcv : 64 ≤ cv) (z1 : s1.size ≤ 64) (z2 : s2.size ≤ 64)
    (hM : ∀ W, Calls Try.prog 12 #[.int .u8 lv, .int .i64 (64 - (m : Int))] W fun e w' => e = .returned (.string s2) ∧ Keeps [] W w')
    (hP : ∀ W, Calls Try.prog 8 #[.string (s1 ++ s2)] W fun e w' => e = .returned (.tuple #[.string t, .bool true]) ∧ Keeps [] W w')
    (hR : ∀ W, Keeps [] w W → (convert 27 9 (.slice (some ⟨g, 0, none⟩) m cv)).run Try.prog W = .ok (.string s1) W)
    (u0 u2 u3 u4 u5 u7 u8 u9 u10 u12 u13 u14 u15 u16 u17 u18 u19 u20 u21 u22 u23 u24 u25 u26 u27 u28 u29 u30 u31 u32 u33 u34 u35 u36 u37 u38 u39 u40 u41 u42 u43 u44 u45 u46 u47 u48 u49 u50 u51 u52 u53 u54 u55 u56 u57 u58 u59 u60 u61 u62 u63 u64 u65 u66 u67 u68 u69 u70 u71 u72 u73 u74 u75 u76 u77 u78 u79 u80 u81 u82 u83 u84 u85 u86 u87 u88 u89 u90 u91 u92 u93 u94 u95 u96 u97 u98 u99 u100 u101 : Value)
    (hK : ∀ (v61 v62 v63 v64 v65 v66 v67 v68 v69 v70 v71 v72 v73 : Value) (W : World), Keeps [] w W → K .normal ⟨#[u0, .int .i64 m, u2, u3, u4, u5, .slice (some ⟨g, 0, none⟩) nl cv, u7, u8, u9, u10, .int .u8 lv, .string t, .bool true, u14, u15, u16, u17, u18, u19, u20, u21, u22, u23, u24, u25, u26, u27, u28, u29, u30, u31, u32, u33, u34, u35, u36, u37, u38, u39, u40, u41, u42, u43, u44, u45, u46, u47, u48, u49, u50, u51, u52, u53, u54, u55, u56, u57, u58, u59, u60, v61, v62, v63, v64, v65, v66, v67, v68, v69, v70, v71, v72, v73, u74, u75, u76, u77, u78, u79, u80, u81, u82, u83, u84, u85, u86, u87, u88, u89, u90, u91, u92, u93, u94, u95, u96, u97, u98, u99, u100, u101], []⟩ W) :
    Code.wp Try.prog lreg14 K ⟨#[u0, .int .i64 m, u2, u3, u4, u5, .slice (some ⟨g, 0, none⟩) nl cv, u7, u8, u9, u10, .int .u8 lv, u12, u13, u14, u15, u16, u17, u18, u19, u20, u21, u22, u23, u24, u25, u26, u27, u28, u29, u30, u31, u32, u33, u34, u35, u36, u37, u38, u39, u40, u41, u42, u43, u44, u45, u46, u47, u48, u49, u50, u51, u52, u53, u54, u55, u56, u57, u58, u59, u60, u61, u62, u63, u64, u65, u66, u67, u68, u69, u70, u71, u72, u73, u74, u75, u76, u77, u78, u79, u80, u81, u82, u83, u84, u85, u86, u87, u88, u89, u90, u91, u92, u93, u94, u95, u96, u97, u98, u99, u100, u101], []⟩ w := by
  have HM := Lib.hid hM
  have HP := Lib.hid hP
  have HR := Lib.hid hR
  have kd : Keeps [] w w.drew := (Keeps.refl [] w).drew
  have hcvI : (m : Int) ≤ cv := by omega
  have jm0 : (0 : Int) ≤ m := by omega
  have j64 : (m : Int) ≤ 64 := by omega
  have jn0 : (0 : Int) ≤ 64 - (m : Int) := by omega
  have hr0 := hR _ kd
  clear hM hP hR
  conv => arg 2; whnf
  dsimp only at hK ⊢
  refine wp_region_noPanic ?_
  refine wp_region_held_drew (S := fun W => (convert 27 9 (.slice (some ⟨g, 0, none⟩) m cv)).run Try.prog W = .ok (.string s1) W) (by kernel_rfl) hr0 (fun hHeld => ?_)
  refine wpAnyH_take (i := 0) (oi := ⟨some 62, Op.move (Operand.tmp 6), 27, _, _, none⟩) (v := .slice (some ⟨g, 0, none⟩) nl cv) rfl (by kernel_rfl) (by kernel_rfl) (by kernel_rfl) (fun _ _ _ h => h) (Or.inl ⟨by rfl, fun W hW => ?_⟩) (by assumption) ?_
  · go_simp
  simp only [Act.put, List.setIfInBounds_toArray, List.set_cons_zero, List.set_cons_succ]
  refine wpAnyH_take (i := 1) (oi := ⟨some 63, Op.move (Operand.tmp 1), 3, _, _, none⟩) (v := .int .i64 m) rfl (by kernel_rfl) (by kernel_rfl) (by kernel_rfl) (fun _ _ _ h => h) (Or.inl ⟨by rfl, fun W hW => ?_⟩) (by assumption) ?_
  · go_simp
  simp only [Act.put, List.setIfInBounds_toArray, List.set_cons_zero, List.set_cons_succ]
  refine wpAnyH_take (i := 2) (oi := ⟨some 64, Op.slice 27 (Operand.tmp 62) none (some (Operand.tmp 63)) none, 27, _, _, none⟩) (v := .slice (some ⟨g, 0, none⟩) m cv) rfl (by kernel_rfl) (by kernel_rfl) (by kernel_rfl) (fun _ _ _ h => h) (Or.inl ⟨by rfl, fun W hW => ?_⟩) (by assumption) ?_
  · go_simp
  simp only [Act.put, List.setIfInBounds_toArray, List.set_cons_zero, List.set_cons_succ]
  refine wpAnyH_take (i := 3) (oi := ⟨some 65, Op.convert 27 9 (Operand.tmp 64), 9, _, _, none⟩) (v := .string s1) rfl (by kernel_rfl) (by kernel_rfl) (by kernel_rfl) (fun _ _ _ h => h) (Or.inl ⟨by rfl, fun W hW => ?_⟩) (by assumption) ?_
  · (simp only [execOp, Act.eval]; go_simp)
  simp only [Act.put, List.setIfInBounds_toArray, List.set_cons_zero, List.set_cons_succ]
  refine wpAnyH_take (i := 4) (oi := ⟨some 66, Op.move (Operand.tmp 11), 5, _, _, none⟩) (v := .int .u8 lv) rfl (by kernel_rfl) (by kernel_rfl) (by kernel_rfl) (fun _ _ _ h => h) (Or.inl ⟨by rfl, fun W hW => ?_⟩) (by assumption) ?_
  · go_simp
  simp only [Act.put, List.setIfInBounds_toArray, List.set_cons_zero, List.set_cons_succ]
  refine wpAnyH_take (i := 5) (oi := ⟨some 67, Op.move (Operand.tmp 1), 3, _, _, none⟩) (v := .int .i64 m) rfl (by kernel_rfl) (by kernel_rfl) (by kernel_rfl) (fun _ _ _ h => h) (Or.inl ⟨by rfl, fun W hW => ?_⟩) (by assumption) ?_
  · go_simp
  simp only [Act.put, List.setIfInBounds_toArray, List.set_cons_zero, List.set_cons_succ]
  refine wpAnyH_take (i := 6) (oi := ⟨some 68, Op.binOp BinOp.sub 3 (Operand.const (Value.int IntKind.i64 64)) (Operand.tmp 67) 3, 3, _, _, none⟩) (v := .int .i64 (64 - (m : Int))) rfl (by kernel_rfl) (by kernel_rfl) (by kernel_rfl) (fun _ _ _ h => h) (Or.inl ⟨by rfl, fun W hW => ?_⟩) (by assumption) ?_
  · (go_simp; exact IntWalk.i64_in _ (by omega))
  simp only [Act.put, List.setIfInBounds_toArray, List.set_cons_zero, List.set_cons_succ]
  refine wpAnyH_ready (rs := [7]) (by kernel_rfl) (by simp) ?_
  refine AllReadyH.cons (o := ⟨some 69, Op.call { callee := Callee.value (Operand.func 12), args := #[Operand.tmp 66, Operand.tmp 68], argTypes := #[5, 3] }, 9, _, _, none⟩) rfl (fun KK hKK => ?_) AllReadyH.nil
  refine step_call rfl 12 _ _ rfl #[.int .u8 lv, .int .i64 (64 - (m : Int))] (by first | (simp [Act.eval]; done) | (simp [Act.eval, Act.put]; done)) (enters_of Try.func12 (by kernel_rfl) rfl) (HM.out _) ?_
  rintro e w3 ⟨rfl, k3⟩
  refine ⟨_, rfl, ?_⟩
  refine hKK.out _ _ (HR.out _ (kd.trans k3 (by simp))) (fun hHeld => ?_)
  clear hKK KK
  simp only [Act.put, List.setIfInBounds_toArray, List.set_cons_zero, List.set_cons_succ]
  refine wpAnyH_take (i := 8) (oi := ⟨some 70, Op.binOp BinOp.add 9 (Operand.tmp 65) (Operand.tmp 69) 9, 9, _, _, none⟩) (v := .string (s1 ++ s2)) rfl (by kernel_rfl) (by kernel_rfl) (by kernel_rfl) (fun _ _ _ h => h) (Or.inl ⟨by rfl, fun W hW => ?_⟩) (by assumption) ?_
  · (go_simp; omega)
  simp only [Act.put, List.setIfInBounds_toArray, List.set_cons_zero, List.set_cons_succ]
  refine wpAnyH_ready (rs := [9]) (by kernel_rfl) (by simp) ?_
  refine AllReadyH.cons (o := ⟨some 71, Op.call { callee := Callee.value (Operand.func 8), args := #[Operand.tmp 70], argTypes := #[9] }, 23, _, _, none⟩) rfl (fun KK hKK => ?_) AllReadyH.nil
  refine step_call rfl 8 _ _ rfl #[.string (s1 ++ s2)] (by first | (simp [Act.eval]; done) | (simp [Act.eval, Act.put]; done)) (enters_of Try.func8 (by kernel_rfl) rfl) (HP.out _) ?_
  rintro e w4 ⟨rfl, k4⟩
  refine ⟨_, rfl, ?_⟩
  refine hKK.out _ _ (HR.out _ ((kd.trans k3 (by simp)).trans k4 (by simp))) (fun hHeld => ?_)
  clear hKK KK
  simp only [Act.put, List.setIfInBounds_toArray, List.set_cons_zero, List.set_cons_succ]
  refine wpAnyH_take (i := 10) (oi := ⟨some 61, Op.move (Operand.tmp 71), 23, _, _, none⟩) (v := .tuple #[.string t, .bool true]) rfl (by kernel_rfl) (by kernel_rfl) (by kernel_rfl) (fun _ _ _ h => h) (Or.inl ⟨by rfl, fun W hW => ?_⟩) (by assumption) ?_
  · go_simp
  simp only [Act.put, List.setIfInBounds_toArray, List.set_cons_zero, List.set_cons_succ]
  refine wpAnyH_take (i := 11) (oi := ⟨some 72, Op.extract (Operand.tmp 61) 0, 9, _, _, none⟩) (v := .string t) rfl (by kernel_rfl) (by kernel_rfl) (by kernel_rfl) (fun _ _ _ h => h) (Or.inl ⟨by rfl, fun W hW => ?_⟩) (by assumption) ?_
  · go_simp
  simp only [Act.put, List.setIfInBounds_toArray, List.set_cons_zero, List.set_cons_succ]
  refine wpAnyH_take (i := 12) (oi := ⟨some 73, Op.extract (Operand.tmp 61) 1, 4, _, _, none⟩) (v := .bool true) rfl (by kernel_rfl) (by kernel_rfl) (by kernel_rfl) (fun _ _ _ h => h) (Or.inl ⟨by rfl, fun W hW => ?_⟩) (by assumption) ?_
  · go_simp
  simp only [Act.put, List.setIfInBounds_toArray, List.set_cons_zero, List.set_cons_succ]
  refine wpAnyH_take (i := 13) (oi := ⟨some 12, Op.assign (Operand.tmp 72), 9, _, _, none⟩) (v := .string t) rfl (by kernel_rfl) (by kernel_rfl) (by kernel_rfl) (fun _ _ _ h => h) (Or.inl ⟨by rfl, fun W hW => ?_⟩) (by assumption) ?_
  · go_simp
  simp only [Act.put, List.setIfInBounds_toArray, List.set_cons_zero, List.set_cons_succ]
  refine wpAnyH_take (i := 14) (oi := ⟨some 13, Op.assign (Operand.tmp 73), 4, _, _, none⟩) (v := .bool true) rfl (by kernel_rfl) (by kernel_rfl) (by kernel_rfl) (fun _ _ _ h => h) (Or.inl ⟨by rfl, fun W hW => ?_⟩) (by assumption) ?_
  · go_simp
  simp only [Act.put, List.setIfInBounds_toArray, List.set_cons_zero, List.set_cons_succ]
  refine wpAnyH_done (by kernel_rfl) ?_ _
  refine NoPanic.normal ?_
  exact hK _ _ _ _ _ _ _ _ _ _ _ _ _ _ ((kd.trans k3 (by simp)).trans k4 (by simp))

noncomputable def lreg15 : Code := ((Try.f6.body.bind (theRegion 15)).getD .skip)
set_option maxRecDepth 1000000 in
set_option maxHeartbeats 1600000 in
set_option linter.unusedSimpArgs false in
theorem lreg15_any (w : World) (m g cv nl : Nat) (lv c1 c2 : Int) (s1 x1 x3 : ByteArray) (K : Exit → Act → World → Prop) (hm1 : 1 ≤ m) (hm2 : m ≤ 32) (hcv : 64 ≤ cv) (z1 : s1.size ≤ 64) (y1 : x1.size ≤ 64) (y3 : x3.size ≤ 64)
    (hu1 : IntKind.u8.wrap (m : Int) = c1) (hu2 : IntKind.u8.wrap (192 - (m : Int)) = c2)
    (h1 : ∀ W g', W.ownsRow 0 5 1 (.slice (some ⟨g', 0, none⟩) 1 1) 1 [.int .u8 c1] → (convert 27 9 (.slice (some ⟨g', 0, none⟩) 1 1)).run Try.prog W = .ok (.string x1) W)
    (h3 : ∀ W g', W.ownsRow 0 5 1 (.slice (some ⟨g', 0, none⟩) 2 2) 2 [.int .u8 c2, .int .u8 lv] → (convert 27 9 (.slice (some ⟨g', 0, none⟩) 2 2)).run Try.prog W = .ok (.string x3) W)
    (hR : ∀ W, Keeps [] w W → (convert 27 9 (.slice (some ⟨g, 0, none⟩) m cv)).run Try.prog W = .ok (.string s1) W)
    (u0 u2 u3 u4 u7 u8 u9 u14 u15 u16 u17 u18 u19 u20 u21 u22 u23 u24 u25 u26 u27 u28 u29 u30 u31 u32 u33 u34 u35 u36 u37 u38 u39 u40 u41 u42 u43 u44 u45 u46 u47 u48 u49 u50 u51 u52 u53 u54 u55 u56 u57 u58 u59 u60 u61 u62 u63 u64 u65 u66 u67 u68 u69 u70 u71 u72 u73 u74 u75 u76 u77 u78 u79 u80 u81 u82 u83 u84 u85 u86 u87 u88 u89 u90 u91 u92 u93 u94 u95 u96 u97 u98 u99 u100 u101 : Value)
    (hK : ∀ (v74 v75 v76 v77 v78 v79 v80 v81 v82 v83 v84 v85 v86 v87 v88 v89 v90 v91 v92 v93 v94 v95 v96 v97 v98 v99 v100 v101 : Value) (W : World), Keeps [] w W → K .normal ⟨#[u0, .int .i64 m, u2, u3, .bool true, .bool true, .slice (some ⟨g, 0, none⟩) nl cv, u7, u8, u9, .bool false, .int .u8 lv, .string (x1 ++ s1 ++ x3), .bool true, u14, u15, u16, u17, u18, u19, u20, u21, u22, u23, u24, u25, u26, u27, u28, u29, u30, u31, u32, u33, u34, u35, u36, u37, u38, u39, u40, u41, u42, u43, u44, u45, u46, u47, u48, u49, u50, u51, u52, u53, u54, u55, u56, u57, u58, u59, u60, u61, u62, u63, u64, u65, u66, u67, u68, u69, u70, u71, u72, u73, v74, v75, v76, v77, v78, v79, v80, v81, v82, v83, v84, v85, v86, v87, v88, v89, v90, v91, v92, v93, v94, v95, v96, v97, v98, v99, v100, v101], []⟩ W) :
    Code.wp Try.prog lreg15 K ⟨#[u0, .int .i64 m, u2, u3, u4, .bool true, .slice (some ⟨g, 0, none⟩) nl cv, u7, u8, u9, .bool false, .int .u8 lv, .string (x1 ++ s1 ++ x3), .bool true, u14, u15, u16, u17, u18, u19, u20, u21, u22, u23, u24, u25, u26, u27, u28, u29, u30, u31, u32, u33, u34, u35, u36, u37, u38, u39, u40, u41, u42, u43, u44, u45, u46, u47, u48, u49, u50, u51, u52, u53, u54, u55, u56, u57, u58, u59, u60, u61, u62, u63, u64, u65, u66, u67, u68, u69, u70, u71, u72, u73, u74, u75, u76, u77, u78, u79, u80, u81, u82, u83, u84, u85, u86, u87, u88, u89, u90, u91, u92, u93, u94, u95, u96, u97, u98, u99, u100, u101], []⟩ w := by
  have HR := Lib.hid hR
  have kd : Keeps [] w w.drew := (Keeps.refl [] w).drew
  have hcvI : (m : Int) ≤ cv := by omega
  have jm0 : (0 : Int) ≤ m := by omega
  have hr0 := hR _ kd
  have hca : ∀ W : World, ∃ W1 g1, g1 = W.heap.size ∧ W.alloc (.cells #[.int .u8 c1] 5) = W1 ∧ Keeps [] W W1 ∧ ∀ W2, Keeps [] W1 W2 → (convert 27 9 (.slice (some ⟨g1, 0, none⟩) 1 1)).run Try.prog W2 = .ok (.string x1) W2 := fun W =>
    ⟨_, _, rfl, rfl, (Keeps.refl _ _).alloc _, fun W2 k2 => h1 W2 _ (own_keep (own_of_blk (Blk.new W 5 _) (by omega) (by unfold maxLen; omega) rfl rfl) k2 (by simp))⟩
  have hcb : ∀ W : World, ∃ W1 g1, g1 = W.heap.size ∧ W.alloc (.cells #[.int .u8 c2, .int .u8 lv] 5) = W1 ∧ Keeps [] W W1 ∧ ∀ W2, Keeps [] W1 W2 → (convert 27 9 (.slice (some ⟨g1, 0, none⟩) 2 2)).run Try.prog W2 = .ok (.string x3) W2 := fun W =>
    ⟨_, _, rfl, rfl, (Keeps.refl _ _).alloc _, fun W2 k2 => h3 W2 _ (own_keep (own_of_blk (Blk.new W 5 _) (by omega) (by unfold maxLen; omega) rfl rfl) k2 (by simp))⟩
  clear hR h1 h3
  conv => arg 2; whnf
  dsimp only at hK ⊢
  refine wp_region_noPanic ?_
  refine wp_region_held_drew (S := fun W => (convert 27 9 (.slice (some ⟨g, 0, none⟩) m cv)).run Try.prog W = .ok (.string s1) W) (by kernel_rfl) hr0 (fun hHeld => ?_)
  generalize w.drew = w0 at *
  refine wpAnyH_take (i := 0) (oi := ⟨some 74, Op.move (Operand.tmp 5), 4, _, _, none⟩) (v := .bool true) rfl (by kernel_rfl) (by kernel_rfl) (by kernel_rfl) (fun _ _ _ h => h) (Or.inl ⟨by rfl, fun W hW => ?_⟩) (by assumption) ?_
  · go_simp
  simp only [Act.put, List.setIfInBounds_toArray, List.set_cons_zero, List.set_cons_succ]
  refine wpAnyH_take (i := 1) (oi := ⟨some 75, Op.move (Operand.tmp 74), 4, _, _, none⟩) (v := .bool true) rfl (by kernel_rfl) (by kernel_rfl) (by kernel_rfl) (fun _ _ _ h => h) (Or.inl ⟨by rfl, fun W hW => ?_⟩) (by assumption) ?_
  · go_simp
  simp only [Act.put, List.setIfInBounds_toArray, List.set_cons_zero, List.set_cons_succ]
  refine wpAnyH_take (i := 2) (oi := ⟨some 76, Op.move (Operand.tmp 10), 4, _, _, some (1, true)⟩) (v := .bool false) rfl (by kernel_rfl) (by kernel_rfl) (by kernel_rfl) (fun _ _ _ h => h) (Or.inl ⟨by rfl, fun W hW => ?_⟩) (by assumption) ?_
  · go_simp
  simp only [Act.put, List.setIfInBounds_toArray, List.set_cons_zero, List.set_cons_succ]
  refine wpAnyH_take (i := 3) (oi := ⟨some 77, Op.unOp UnOp.not 4 (Operand.tmp 76), 4, _, _, some (1, true)⟩) (v := .bool true) rfl (by kernel_rfl) (by kernel_rfl) (by kernel_rfl) (fun _ _ _ h => h) (Or.inl ⟨by rfl, fun W hW => ?_⟩) (by assumption) ?_
  · go_simp
  simp only [Act.put, List.setIfInBounds_toArray, List.set_cons_zero, List.set_cons_succ]
  refine wpAnyH_take (i := 4) (oi := ⟨some 78, Op.pick (Operand.tmp 75) (Operand.tmp 77) (Operand.const (Value.bool false)), 4, _, _, none⟩) (v := .bool true) rfl (by kernel_rfl) (by kernel_rfl) (by kernel_rfl) (fun _ _ _ h => h) (Or.inl ⟨by rfl, fun W hW => ?_⟩) (by assumption) ?_
  · go_simp
  simp only [Act.put, List.setIfInBounds_toArray, List.set_cons_zero, List.set_cons_succ]
  refine wpAnyH_take (i := 5) (oi := ⟨some 79, Op.move (Operand.tmp 78), 4, _, _, none⟩) (v := .bool true) rfl (by kernel_rfl) (by kernel_rfl) (by kernel_rfl) (fun _ _ _ h => h) (Or.inl ⟨by rfl, fun W hW => ?_⟩) (by assumption) ?_
  · go_simp
  simp only [Act.put, List.setIfInBounds_toArray, List.set_cons_zero, List.set_cons_succ]
  refine wpAnyH_take (i := 6) (oi := ⟨some 80, Op.move (Operand.tmp 13), 4, _, _, some (5, true)⟩) (v := .bool true) rfl (by kernel_rfl) (by kernel_rfl) (by kernel_rfl) (fun _ _ _ h => h) (Or.inl ⟨by rfl, fun W hW => ?_⟩) (by assumption) ?_
  · go_simp
  simp only [Act.put, List.setIfInBounds_toArray, List.set_cons_zero, List.set_cons_succ]
  refine wpAnyH_take (i := 7) (oi := ⟨some 81, Op.pick (Operand.tmp 79) (Operand.tmp 80) (Operand.const (Value.bool false)), 4, _, _, none⟩) (v := .bool true) rfl (by kernel_rfl) (by kernel_rfl) (by kernel_rfl) (fun _ _ _ h => h) (Or.inl ⟨by rfl, fun W hW => ?_⟩) (by assumption) ?_
  · go_simp
  simp only [Act.put, List.setIfInBounds_toArray, List.set_cons_zero, List.set_cons_succ]
  refine wpAnyH_take (i := 8) (oi := ⟨some 82, Op.move (Operand.tmp 81), 4, _, _, none⟩) (v := .bool true) rfl (by kernel_rfl) (by kernel_rfl) (by kernel_rfl) (fun _ _ _ h => h) (Or.inl ⟨by rfl, fun W hW => ?_⟩) (by assumption) ?_
  · go_simp
  simp only [Act.put, List.setIfInBounds_toArray, List.set_cons_zero, List.set_cons_succ]
  refine wpAnyH_take (i := 9) (oi := ⟨some 83, Op.move (Operand.tmp 12), 9, _, _, some (8, true)⟩) (v := .string (x1 ++ s1 ++ x3)) rfl (by kernel_rfl) (by kernel_rfl) (by kernel_rfl) (fun _ _ _ h => h) (Or.inl ⟨by rfl, fun W hW => ?_⟩) (by assumption) ?_
  · go_simp
  simp only [Act.put, List.setIfInBounds_toArray, List.set_cons_zero, List.set_cons_succ]
  refine wpAnyH_take (i := 10) (oi := ⟨some 84, Op.move (Operand.tmp 1), 3, _, _, some (8, true)⟩) (v := .int .i64 m) rfl (by kernel_rfl) (by kernel_rfl) (by kernel_rfl) (fun _ _ _ h => h) (Or.inl ⟨by rfl, fun W hW => ?_⟩) (by assumption) ?_
  · go_simp
  simp only [Act.put, List.setIfInBounds_toArray, List.set_cons_zero, List.set_cons_succ]
  refine wpAnyH_take (i := 11) (oi := ⟨some 85, Op.convert 3 5 (Operand.tmp 84), 5, _, _, some (8, true)⟩) (v := .int .u8 c1) rfl (by kernel_rfl) (by kernel_rfl) (by kernel_rfl) (fun _ _ _ h => h) (Or.inl ⟨by rfl, fun W hW => ?_⟩) (by assumption) ?_
  · go_simp
  simp only [Act.put, List.setIfInBounds_toArray, List.set_cons_zero, List.set_cons_succ]
  refine wpAnyH_take (i := 14) (oi := ⟨some 88, Op.move (Operand.tmp 6), 27, _, _, some (8, true)⟩) (v := .slice (some ⟨g, 0, none⟩) nl cv) rfl (by kernel_rfl) (by kernel_rfl) (by kernel_rfl) (fun _ _ _ h => h) (Or.inl ⟨by rfl, fun W hW => ?_⟩) (by assumption) ?_
  · go_simp
  simp only [Act.put, List.setIfInBounds_toArray, List.set_cons_zero, List.set_cons_succ]
  refine wpAnyH_take (i := 15) (oi := ⟨some 89, Op.move (Operand.tmp 1), 3, _, _, some (8, true)⟩) (v := .int .i64 m) rfl (by kernel_rfl) (by kernel_rfl) (by kernel_rfl) (fun _ _ _ h => h) (Or.inl ⟨by rfl, fun W hW => ?_⟩) (by assumption) ?_
  · go_simp
  simp only [Act.put, List.setIfInBounds_toArray, List.set_cons_zero, List.set_cons_succ]
  refine wpAnyH_take (i := 16) (oi := ⟨some 90, Op.slice 27 (Operand.tmp 88) none (some (Operand.tmp 89)) none, 27, _, _, some (8, true)⟩) (v := .slice (some ⟨g, 0, none⟩) m cv) rfl (by kernel_rfl) (by kernel_rfl) (by kernel_rfl) (fun _ _ _ h => h) (Or.inl ⟨by rfl, fun W hW => ?_⟩) (by assumption) ?_
  · go_simp
  simp only [Act.put, List.setIfInBounds_toArray, List.set_cons_zero, List.set_cons_succ]
  refine wpAnyH_take (i := 17) (oi := ⟨some 91, Op.convert 27 9 (Operand.tmp 90), 9, _, _, some (8, true)⟩) (v := .string s1) rfl (by kernel_rfl) (by kernel_rfl) (by kernel_rfl) (fun _ _ _ h => h) (Or.inl ⟨by rfl, fun W hW => ?_⟩) (by assumption) ?_
  · go_simp
  simp only [Act.put, List.setIfInBounds_toArray, List.set_cons_zero, List.set_cons_succ]
  refine wpAnyH_take (i := 19) (oi := ⟨some 93, Op.move (Operand.tmp 1), 3, _, _, some (8, true)⟩) (v := .int .i64 m) rfl (by kernel_rfl) (by kernel_rfl) (by kernel_rfl) (fun _ _ _ h => h) (Or.inl ⟨by rfl, fun W hW => ?_⟩) (by assumption) ?_
  · go_simp
  simp only [Act.put, List.setIfInBounds_toArray, List.set_cons_zero, List.set_cons_succ]
  refine wpAnyH_take (i := 20) (oi := ⟨some 94, Op.binOp BinOp.sub 3 (Operand.const (Value.int IntKind.i64 192)) (Operand.tmp 93) 3, 3, _, _, some (8, true)⟩) (v := .int .i64 (192 - (m : Int))) rfl (by kernel_rfl) (by kernel_rfl) (by kernel_rfl) (fun _ _ _ h => h) (Or.inl ⟨by rfl, fun W hW => ?_⟩) (by assumption) ?_
  · (go_simp; exact IntWalk.i64_in _ (by omega))
  simp only [Act.put, List.setIfInBounds_toArray, List.set_cons_zero, List.set_cons_succ]
  refine wpAnyH_take (i := 21) (oi := ⟨some 95, Op.convert 3 5 (Operand.tmp 94), 5, _, _, some (8, true)⟩) (v := .int .u8 c2) rfl (by kernel_rfl) (by kernel_rfl) (by kernel_rfl) (fun _ _ _ h => h) (Or.inl ⟨by rfl, fun W hW => ?_⟩) (by assumption) ?_
  · go_simp
  simp only [Act.put, List.setIfInBounds_toArray, List.set_cons_zero, List.set_cons_succ]
  refine wpAnyH_take (i := 22) (oi := ⟨some 96, Op.move (Operand.tmp 11), 5, _, _, some (8, true)⟩) (v := .int .u8 lv) rfl (by kernel_rfl) (by kernel_rfl) (by kernel_rfl) (fun _ _ _ h => h) (Or.inl ⟨by rfl, fun W hW => ?_⟩) (by assumption) ?_
  · go_simp
  simp only [Act.put, List.setIfInBounds_toArray, List.set_cons_zero, List.set_cons_succ]
  refine wpAnyH_ready (rs := [12, 23]) (by kernel_rfl) (by simp) ?_
  refine AllReadyH.cons (o := ⟨some 86, Op.buildSlice 27 1 #[(0, Operand.tmp 85)], 27, _, _, some (8, true)⟩) rfl (fun KK hKK => ?_) (AllReadyH.cons (o := ⟨some 97, Op.buildSlice 27 2 #[(0, Operand.tmp 95), (1, Operand.tmp 96)], 27, _, _, some (8, true)⟩) rfl (fun KK hKK => ?_) AllReadyH.nil)
  · go_simp
    obtain ⟨W012, ga, hga, hwW012, KW012, ca⟩ := hca w0
    rw [hwW012, ← hga]
    refine hKK.out _ _ (HR.out _ (kd.trans KW012 (by simp))) (fun hHeld => ?_)
    clear hKK KK hwW012 hga
    try simp only [Act.put, List.setIfInBounds_toArray, List.set_cons_zero, List.set_cons_succ]
    have QW012 := kd.trans KW012 (by simp)
    refine wpAnyH_ready (rs := [13, 23]) (by kernel_rfl) (by simp) ?_
    refine AllReadyH.cons (o := ⟨some 87, Op.convert 27 9 (Operand.tmp 86), 9, _, _, some (8, true)⟩) rfl (fun KK hKK => ?_) (AllReadyH.cons (o := ⟨some 97, Op.buildSlice 27 2 #[(0, Operand.tmp 95), (1, Operand.tmp 96)], 27, _, _, some (8, true)⟩) rfl (fun KK hKK => ?_) AllReadyH.nil)
    · have hcc := ca W012 (by first | exact Keeps.refl _ _ | assumption)
      go_simp
      refine hKK.out _ _ (HR.out _ QW012) (fun hHeld => ?_)
      clear hKK KK hcc
      try simp only [Act.put, List.setIfInBounds_toArray, List.set_cons_zero, List.set_cons_succ]
      refine wpAnyH_take (i := 18) (oi := ⟨some 92, Op.binOp BinOp.add 9 (Operand.tmp 87) (Operand.tmp 91) 9, 9, _, _, some (8, true)⟩) (v := .string (x1 ++ s1)) rfl (by kernel_rfl) (by kernel_rfl) (by kernel_rfl) (fun _ _ _ h => h) (Or.inl ⟨by rfl, fun W hW => ?_⟩) (by assumption) ?_
      · (go_simp; omega)
      simp only [Act.put, List.setIfInBounds_toArray, List.set_cons_zero, List.set_cons_succ]
      refine wpAnyH_ready (rs := [23]) (by kernel_rfl) (by simp) ?_
      refine AllReadyH.cons (o := ⟨some 97, Op.buildSlice 27 2 #[(0, Operand.tmp 95), (1, Operand.tmp 96)], 27, _, _, some (8, true)⟩) rfl (fun KK hKK => ?_) AllReadyH.nil
      · go_simp
        obtain ⟨W223, gb, hgb, hwW223, KW223, cb⟩ := hcb W012
        rw [hwW223, ← hgb]
        refine hKK.out _ _ (HR.out _ (QW012.trans KW223 (by simp))) (fun hHeld => ?_)
        clear hKK KK hwW223 hgb
        try simp only [Act.put, List.setIfInBounds_toArray, List.set_cons_zero, List.set_cons_succ]
        have QW223 := QW012.trans KW223 (by simp)
        refine wpAnyH_ready (rs := [24]) (by kernel_rfl) (by simp) ?_
        refine AllReadyH.cons (o := ⟨some 98, Op.convert 27 9 (Operand.tmp 97), 9, _, _, some (8, true)⟩) rfl (fun KK hKK => ?_) AllReadyH.nil
        · have hcc := cb W223 (by first | exact Keeps.refl _ _ | assumption)
          go_simp
          refine hKK.out _ _ (HR.out _ QW223) (fun hHeld => ?_)
          clear hKK KK hcc
          try simp only [Act.put, List.setIfInBounds_toArray, List.set_cons_zero, List.set_cons_succ]
          refine wpAnyH_take (i := 25) (oi := ⟨some 99, Op.binOp BinOp.add 9 (Operand.tmp 92) (Operand.tmp 98) 9, 9, _, _, some (8, true)⟩) (v := .string (x1 ++ s1 ++ x3)) rfl (by kernel_rfl) (by kernel_rfl) (by kernel_rfl) (fun _ _ _ h => h) (Or.inl ⟨by rfl, fun W hW => ?_⟩) (by assumption) ?_
          · (go_simp; omega)
          simp only [Act.put, List.setIfInBounds_toArray, List.set_cons_zero, List.set_cons_succ]
          refine wpAnyH_take (i := 26) (oi := ⟨some 100, Op.binOp BinOp.eql 9 (Operand.tmp 83) (Operand.tmp 99) 9, 4, _, _, some (8, true)⟩) (v := .bool true) rfl (by kernel_rfl) (by kernel_rfl) (by kernel_rfl) (fun _ _ _ h => h) (Or.inl ⟨by rfl, fun W hW => ?_⟩) (by assumption) ?_
          · go_simp
          simp only [Act.put, List.setIfInBounds_toArray, List.set_cons_zero, List.set_cons_succ]
          refine wpAnyH_take (i := 27) (oi := ⟨some 101, Op.pick (Operand.tmp 82) (Operand.tmp 100) (Operand.const (Value.bool false)), 4, _, _, none⟩) (v := .bool true) rfl (by kernel_rfl) (by kernel_rfl) (by kernel_rfl) (fun _ _ _ h => h) (Or.inl ⟨by rfl, fun W hW => ?_⟩) (by assumption) ?_
          · go_simp
          simp only [Act.put, List.setIfInBounds_toArray, List.set_cons_zero, List.set_cons_succ]
          refine wpAnyH_take (i := 28) (oi := ⟨some 4, Op.assign (Operand.tmp 101), 4, _, _, none⟩) (v := .bool true) rfl (by kernel_rfl) (by kernel_rfl) (by kernel_rfl) (fun _ _ _ h => h) (Or.inl ⟨by rfl, fun W hW => ?_⟩) (by assumption) ?_
          · go_simp
          simp only [Act.put, List.setIfInBounds_toArray, List.set_cons_zero, List.set_cons_succ]
          refine wpAnyH_done (by kernel_rfl) ?_ _
          refine NoPanic.normal ?_
          exact hK _ _ _ _ _ _ _ _ _ _ _ _ _ _ _ _ _ _ _ _ _ _ _ _ _ _ _ _ _ QW223
    · go_simp
      obtain ⟨W123, gb, hgb, hwW123, KW123, cb⟩ := hcb W012
      rw [hwW123, ← hgb]
      refine hKK.out _ _ (HR.out _ (QW012.trans KW123 (by simp))) (fun hHeld => ?_)
      clear hKK KK hwW123 hgb
      try simp only [Act.put, List.setIfInBounds_toArray, List.set_cons_zero, List.set_cons_succ]
      have QW123 := QW012.trans KW123 (by simp)
      refine wpAnyH_ready (rs := [13, 24]) (by kernel_rfl) (by simp) ?_
      refine AllReadyH.cons (o := ⟨some 87, Op.convert 27 9 (Operand.tmp 86), 9, _, _, some (8, true)⟩) rfl (fun KK hKK => ?_) (AllReadyH.cons (o := ⟨some 98, Op.convert 27 9 (Operand.tmp 97), 9, _, _, some (8, true)⟩) rfl (fun KK hKK => ?_) AllReadyH.nil)
      · have hcc := ca W123 (by first | exact Keeps.refl _ _ | assumption)
        go_simp
        refine hKK.out _ _ (HR.out _ QW123) (fun hHeld => ?_)
        clear hKK KK hcc
        try simp only [Act.put, List.setIfInBounds_toArray, List.set_cons_zero, List.set_cons_succ]
        refine wpAnyH_take (i := 18) (oi := ⟨some 92, Op.binOp BinOp.add 9 (Operand.tmp 87) (Operand.tmp 91) 9, 9, _, _, some (8, true)⟩) (v := .string (x1 ++ s1)) rfl (by kernel_rfl) (by kernel_rfl) (by kernel_rfl) (fun _ _ _ h => h) (Or.inl ⟨by rfl, fun W hW => ?_⟩) (by assumption) ?_
        · (go_simp; omega)
        simp only [Act.put, List.setIfInBounds_toArray, List.set_cons_zero, List.set_cons_succ]
        refine wpAnyH_ready (rs := [24]) (by kernel_rfl) (by simp) ?_
        refine AllReadyH.cons (o := ⟨some 98, Op.convert 27 9 (Operand.tmp 97), 9, _, _, some (8, true)⟩) rfl (fun KK hKK => ?_) AllReadyH.nil
        · have hcc := cb W123 (by first | exact Keeps.refl _ _ | assumption)
          go_simp
          refine hKK.out _ _ (HR.out _ QW123) (fun hHeld => ?_)
          clear hKK KK hcc
          try simp only [Act.put, List.setIfInBounds_toArray, List.set_cons_zero, List.set_cons_succ]
          refine wpAnyH_take (i := 25) (oi := ⟨some 99, Op.binOp BinOp.add 9 (Operand.tmp 92) (Operand.tmp 98) 9, 9, _, _, some (8, true)⟩) (v := .string (x1 ++ s1 ++ x3)) rfl (by kernel_rfl) (by kernel_rfl) (by kernel_rfl) (fun _ _ _ h => h) (Or.inl ⟨by rfl, fun W hW => ?_⟩) (by assumption) ?_
          · (go_simp; omega)
          simp only [Act.put, List.setIfInBounds_toArray, List.set_cons_zero, List.set_cons_succ]
          refine wpAnyH_take (i := 26) (oi := ⟨some 100, Op.binOp BinOp.eql 9 (Operand.tmp 83) (Operand.tmp 99) 9, 4, _, _, some (8, true)⟩) (v := .bool true) rfl (by kernel_rfl) (by kernel_rfl) (by kernel_rfl) (fun _ _ _ h => h) (Or.inl ⟨by rfl, fun W hW => ?_⟩) (by assumption) ?_
          · go_simp
          simp only [Act.put, List.setIfInBounds_toArray, List.set_cons_zero, List.set_cons_succ]
          refine wpAnyH_take (i := 27) (oi := ⟨some 101, Op.pick (Operand.tmp 82) (Operand.tmp 100) (Operand.const (Value.bool false)), 4, _, _, none⟩) (v := .bool true) rfl (by kernel_rfl) (by kernel_rfl) (by kernel_rfl) (fun _ _ _ h => h) (Or.inl ⟨by rfl, fun W hW => ?_⟩) (by assumption) ?_
          · go_simp
          simp only [Act.put, List.setIfInBounds_toArray, List.set_cons_zero, List.set_cons_succ]
          refine wpAnyH_take (i := 28) (oi := ⟨some 4, Op.assign (Operand.tmp 101), 4, _, _, none⟩) (v := .bool true) rfl (by kernel_rfl) (by kernel_rfl) (by kernel_rfl) (fun _ _ _ h => h) (Or.inl ⟨by rfl, fun W hW => ?_⟩) (by assumption) ?_
          · go_simp
          simp only [Act.put, List.setIfInBounds_toArray, List.set_cons_zero, List.set_cons_succ]
          refine wpAnyH_done (by kernel_rfl) ?_ _
          refine NoPanic.normal ?_
          exact hK _ _ _ _ _ _ _ _ _ _ _ _ _ _ _ _ _ _ _ _ _ _ _ _ _ _ _ _ _ QW123
      · have hcc := cb W123 (by first | exact Keeps.refl _ _ | assumption)
        go_simp
        refine hKK.out _ _ (HR.out _ QW123) (fun hHeld => ?_)
        clear hKK KK hcc
        try simp only [Act.put, List.setIfInBounds_toArray, List.set_cons_zero, List.set_cons_succ]
        refine wpAnyH_ready (rs := [13]) (by kernel_rfl) (by simp) ?_
        refine AllReadyH.cons (o := ⟨some 87, Op.convert 27 9 (Operand.tmp 86), 9, _, _, some (8, true)⟩) rfl (fun KK hKK => ?_) AllReadyH.nil
        · have hcc := ca W123 (by first | exact Keeps.refl _ _ | assumption)
          go_simp
          refine hKK.out _ _ (HR.out _ QW123) (fun hHeld => ?_)
          clear hKK KK hcc
          try simp only [Act.put, List.setIfInBounds_toArray, List.set_cons_zero, List.set_cons_succ]
          refine wpAnyH_take (i := 18) (oi := ⟨some 92, Op.binOp BinOp.add 9 (Operand.tmp 87) (Operand.tmp 91) 9, 9, _, _, some (8, true)⟩) (v := .string (x1 ++ s1)) rfl (by kernel_rfl) (by kernel_rfl) (by kernel_rfl) (fun _ _ _ h => h) (Or.inl ⟨by rfl, fun W hW => ?_⟩) (by assumption) ?_
          · (go_simp; omega)
          simp only [Act.put, List.setIfInBounds_toArray, List.set_cons_zero, List.set_cons_succ]
          refine wpAnyH_take (i := 25) (oi := ⟨some 99, Op.binOp BinOp.add 9 (Operand.tmp 92) (Operand.tmp 98) 9, 9, _, _, some (8, true)⟩) (v := .string (x1 ++ s1 ++ x3)) rfl (by kernel_rfl) (by kernel_rfl) (by kernel_rfl) (fun _ _ _ h => h) (Or.inl ⟨by rfl, fun W hW => ?_⟩) (by assumption) ?_
          · (go_simp; omega)
          simp only [Act.put, List.setIfInBounds_toArray, List.set_cons_zero, List.set_cons_succ]
          refine wpAnyH_take (i := 26) (oi := ⟨some 100, Op.binOp BinOp.eql 9 (Operand.tmp 83) (Operand.tmp 99) 9, 4, _, _, some (8, true)⟩) (v := .bool true) rfl (by kernel_rfl) (by kernel_rfl) (by kernel_rfl) (fun _ _ _ h => h) (Or.inl ⟨by rfl, fun W hW => ?_⟩) (by assumption) ?_
          · go_simp
          simp only [Act.put, List.setIfInBounds_toArray, List.set_cons_zero, List.set_cons_succ]
          refine wpAnyH_take (i := 27) (oi := ⟨some 101, Op.pick (Operand.tmp 82) (Operand.tmp 100) (Operand.const (Value.bool false)), 4, _, _, none⟩) (v := .bool true) rfl (by kernel_rfl) (by kernel_rfl) (by kernel_rfl) (fun _ _ _ h => h) (Or.inl ⟨by rfl, fun W hW => ?_⟩) (by assumption) ?_
          · go_simp
          simp only [Act.put, List.setIfInBounds_toArray, List.set_cons_zero, List.set_cons_succ]
          refine wpAnyH_take (i := 28) (oi := ⟨some 4, Op.assign (Operand.tmp 101), 4, _, _, none⟩) (v := .bool true) rfl (by kernel_rfl) (by kernel_rfl) (by kernel_rfl) (fun _ _ _ h => h) (Or.inl ⟨by rfl, fun W hW => ?_⟩) (by assumption) ?_
          · go_simp
          simp only [Act.put, List.setIfInBounds_toArray, List.set_cons_zero, List.set_cons_succ]
          refine wpAnyH_done (by kernel_rfl) ?_ _
          refine NoPanic.normal ?_
          exact hK _ _ _ _ _ _ _ _ _ _ _ _ _ _ _ _ _ _ _ _ _ _ _ _ _ _ _ _ _ QW123
  · go_simp
    obtain ⟨W023, gb, hgb, hwW023, KW023, cb⟩ := hcb w0
    rw [hwW023, ← hgb]
    refine hKK.out _ _ (HR.out _ (kd.trans KW023 (by simp))) (fun hHeld => ?_)
    clear hKK KK hwW023 hgb
    try simp only [Act.put, List.setIfInBounds_toArray, List.set_cons_zero, List.set_cons_succ]
    have QW023 := kd.trans KW023 (by simp)
    refine wpAnyH_ready (rs := [12, 24]) (by kernel_rfl) (by simp) ?_
    refine AllReadyH.cons (o := ⟨some 86, Op.buildSlice 27 1 #[(0, Operand.tmp 85)], 27, _, _, some (8, true)⟩) rfl (fun KK hKK => ?_) (AllReadyH.cons (o := ⟨some 98, Op.convert 27 9 (Operand.tmp 97), 9, _, _, some (8, true)⟩) rfl (fun KK hKK => ?_) AllReadyH.nil)
    · go_simp
      obtain ⟨W112, ga, hga, hwW112, KW112, ca⟩ := hca W023
      rw [hwW112, ← hga]
      refine hKK.out _ _ (HR.out _ (QW023.trans KW112 (by simp))) (fun hHeld => ?_)
      clear hKK KK hwW112 hga
      try simp only [Act.put, List.setIfInBounds_toArray, List.set_cons_zero, List.set_cons_succ]
      have QW112 := QW023.trans KW112 (by simp)
      refine wpAnyH_ready (rs := [13, 24]) (by kernel_rfl) (by simp) ?_
      refine AllReadyH.cons (o := ⟨some 87, Op.convert 27 9 (Operand.tmp 86), 9, _, _, some (8, true)⟩) rfl (fun KK hKK => ?_) (AllReadyH.cons (o := ⟨some 98, Op.convert 27 9 (Operand.tmp 97), 9, _, _, some (8, true)⟩) rfl (fun KK hKK => ?_) AllReadyH.nil)
      · have hcc := ca W112 (by first | exact Keeps.refl _ _ | assumption)
        go_simp
        refine hKK.out _ _ (HR.out _ QW112) (fun hHeld => ?_)
        clear hKK KK hcc
        try simp only [Act.put, List.setIfInBounds_toArray, List.set_cons_zero, List.set_cons_succ]
        refine wpAnyH_take (i := 18) (oi := ⟨some 92, Op.binOp BinOp.add 9 (Operand.tmp 87) (Operand.tmp 91) 9, 9, _, _, some (8, true)⟩) (v := .string (x1 ++ s1)) rfl (by kernel_rfl) (by kernel_rfl) (by kernel_rfl) (fun _ _ _ h => h) (Or.inl ⟨by rfl, fun W hW => ?_⟩) (by assumption) ?_
        · (go_simp; omega)
        simp only [Act.put, List.setIfInBounds_toArray, List.set_cons_zero, List.set_cons_succ]
        refine wpAnyH_ready (rs := [24]) (by kernel_rfl) (by simp) ?_
        refine AllReadyH.cons (o := ⟨some 98, Op.convert 27 9 (Operand.tmp 97), 9, _, _, some (8, true)⟩) rfl (fun KK hKK => ?_) AllReadyH.nil
        · have hcc := cb W112 (by first | exact Keeps.refl _ _ | assumption)
          go_simp
          refine hKK.out _ _ (HR.out _ QW112) (fun hHeld => ?_)
          clear hKK KK hcc
          try simp only [Act.put, List.setIfInBounds_toArray, List.set_cons_zero, List.set_cons_succ]
          refine wpAnyH_take (i := 25) (oi := ⟨some 99, Op.binOp BinOp.add 9 (Operand.tmp 92) (Operand.tmp 98) 9, 9, _, _, some (8, true)⟩) (v := .string (x1 ++ s1 ++ x3)) rfl (by kernel_rfl) (by kernel_rfl) (by kernel_rfl) (fun _ _ _ h => h) (Or.inl ⟨by rfl, fun W hW => ?_⟩) (by assumption) ?_
          · (go_simp; omega)
          simp only [Act.put, List.setIfInBounds_toArray, List.set_cons_zero, List.set_cons_succ]
          refine wpAnyH_take (i := 26) (oi := ⟨some 100, Op.binOp BinOp.eql 9 (Operand.tmp 83) (Operand.tmp 99) 9, 4, _, _, some (8, true)⟩) (v := .bool true) rfl (by kernel_rfl) (by kernel_rfl) (by kernel_rfl) (fun _ _ _ h => h) (Or.inl ⟨by rfl, fun W hW => ?_⟩) (by assumption) ?_
          · go_simp
          simp only [Act.put, List.setIfInBounds_toArray, List.set_cons_zero, List.set_cons_succ]
          refine wpAnyH_take (i := 27) (oi := ⟨some 101, Op.pick (Operand.tmp 82) (Operand.tmp 100) (Operand.const (Value.bool false)), 4, _, _, none⟩) (v := .bool true) rfl (by kernel_rfl) (by kernel_rfl) (by kernel_rfl) (fun _ _ _ h => h) (Or.inl ⟨by rfl, fun W hW => ?_⟩) (by assumption) ?_
          · go_simp
          simp only [Act.put, List.setIfInBounds_toArray, List.set_cons_zero, List.set_cons_succ]
          refine wpAnyH_take (i := 28) (oi := ⟨some 4, Op.assign (Operand.tmp 101), 4, _, _, none⟩) (v := .bool true) rfl (by kernel_rfl) (by kernel_rfl) (by kernel_rfl) (fun _ _ _ h => h) (Or.inl ⟨by rfl, fun W hW => ?_⟩) (by assumption) ?_
          · go_simp
          simp only [Act.put, List.setIfInBounds_toArray, List.set_cons_zero, List.set_cons_succ]
          refine wpAnyH_done (by kernel_rfl) ?_ _
          refine NoPanic.normal ?_
          exact hK _ _ _ _ _ _ _ _ _ _ _ _ _ _ _ _ _ _ _ _ _ _ _ _ _ _ _ _ _ QW112
      · have hcc := cb W112 (by first | exact Keeps.refl _ _ | assumption)
        go_simp
        refine hKK.out _ _ (HR.out _ QW112) (fun hHeld => ?_)
        clear hKK KK hcc
        try simp only [Act.put, List.setIfInBounds_toArray, List.set_cons_zero, List.set_cons_succ]
        refine wpAnyH_ready (rs := [13]) (by kernel_rfl) (by simp) ?_
        refine AllReadyH.cons (o := ⟨some 87, Op.convert 27 9 (Operand.tmp 86), 9, _, _, some (8, true)⟩) rfl (fun KK hKK => ?_) AllReadyH.nil
        · have hcc := ca W112 (by first | exact Keeps.refl _ _ | assumption)
          go_simp
          refine hKK.out _ _ (HR.out _ QW112) (fun hHeld => ?_)
          clear hKK KK hcc
          try simp only [Act.put, List.setIfInBounds_toArray, List.set_cons_zero, List.set_cons_succ]
          refine wpAnyH_take (i := 18) (oi := ⟨some 92, Op.binOp BinOp.add 9 (Operand.tmp 87) (Operand.tmp 91) 9, 9, _, _, some (8, true)⟩) (v := .string (x1 ++ s1)) rfl (by kernel_rfl) (by kernel_rfl) (by kernel_rfl) (fun _ _ _ h => h) (Or.inl ⟨by rfl, fun W hW => ?_⟩) (by assumption) ?_
          · (go_simp; omega)
          simp only [Act.put, List.setIfInBounds_toArray, List.set_cons_zero, List.set_cons_succ]
          refine wpAnyH_take (i := 25) (oi := ⟨some 99, Op.binOp BinOp.add 9 (Operand.tmp 92) (Operand.tmp 98) 9, 9, _, _, some (8, true)⟩) (v := .string (x1 ++ s1 ++ x3)) rfl (by kernel_rfl) (by kernel_rfl) (by kernel_rfl) (fun _ _ _ h => h) (Or.inl ⟨by rfl, fun W hW => ?_⟩) (by assumption) ?_
          · (go_simp; omega)
          simp only [Act.put, List.setIfInBounds_toArray, List.set_cons_zero, List.set_cons_succ]
          refine wpAnyH_take (i := 26) (oi := ⟨some 100, Op.binOp BinOp.eql 9 (Operand.tmp 83) (Operand.tmp 99) 9, 4, _, _, some (8, true)⟩) (v := .bool true) rfl (by kernel_rfl) (by kernel_rfl) (by kernel_rfl) (fun _ _ _ h => h) (Or.inl ⟨by rfl, fun W hW => ?_⟩) (by assumption) ?_
          · go_simp
          simp only [Act.put, List.setIfInBounds_toArray, List.set_cons_zero, List.set_cons_succ]
          refine wpAnyH_take (i := 27) (oi := ⟨some 101, Op.pick (Operand.tmp 82) (Operand.tmp 100) (Operand.const (Value.bool false)), 4, _, _, none⟩) (v := .bool true) rfl (by kernel_rfl) (by kernel_rfl) (by kernel_rfl) (fun _ _ _ h => h) (Or.inl ⟨by rfl, fun W hW => ?_⟩) (by assumption) ?_
          · go_simp
          simp only [Act.put, List.setIfInBounds_toArray, List.set_cons_zero, List.set_cons_succ]
          refine wpAnyH_take (i := 28) (oi := ⟨some 4, Op.assign (Operand.tmp 101), 4, _, _, none⟩) (v := .bool true) rfl (by kernel_rfl) (by kernel_rfl) (by kernel_rfl) (fun _ _ _ h => h) (Or.inl ⟨by rfl, fun W hW => ?_⟩) (by assumption) ?_
          · go_simp
          simp only [Act.put, List.setIfInBounds_toArray, List.set_cons_zero, List.set_cons_succ]
          refine wpAnyH_done (by kernel_rfl) ?_ _
          refine NoPanic.normal ?_
          exact hK _ _ _ _ _ _ _ _ _ _ _ _ _ _ _ _ _ _ _ _ _ _ _ _ _ _ _ _ _ QW112
    · have hcc := cb W023 (by first | exact Keeps.refl _ _ | assumption)
      go_simp
      refine hKK.out _ _ (HR.out _ QW023) (fun hHeld => ?_)
      clear hKK KK hcc
      try simp only [Act.put, List.setIfInBounds_toArray, List.set_cons_zero, List.set_cons_succ]
      refine wpAnyH_ready (rs := [12]) (by kernel_rfl) (by simp) ?_
      refine AllReadyH.cons (o := ⟨some 86, Op.buildSlice 27 1 #[(0, Operand.tmp 85)], 27, _, _, some (8, true)⟩) rfl (fun KK hKK => ?_) AllReadyH.nil
      · go_simp
        obtain ⟨W212, ga, hga, hwW212, KW212, ca⟩ := hca W023
        rw [hwW212, ← hga]
        refine hKK.out _ _ (HR.out _ (QW023.trans KW212 (by simp))) (fun hHeld => ?_)
        clear hKK KK hwW212 hga
        try simp only [Act.put, List.setIfInBounds_toArray, List.set_cons_zero, List.set_cons_succ]
        have QW212 := QW023.trans KW212 (by simp)
        refine wpAnyH_ready (rs := [13]) (by kernel_rfl) (by simp) ?_
        refine AllReadyH.cons (o := ⟨some 87, Op.convert 27 9 (Operand.tmp 86), 9, _, _, some (8, true)⟩) rfl (fun KK hKK => ?_) AllReadyH.nil
        · have hcc := ca W212 (by first | exact Keeps.refl _ _ | assumption)
          go_simp
          refine hKK.out _ _ (HR.out _ QW212) (fun hHeld => ?_)
          clear hKK KK hcc
          try simp only [Act.put, List.setIfInBounds_toArray, List.set_cons_zero, List.set_cons_succ]
          refine wpAnyH_take (i := 18) (oi := ⟨some 92, Op.binOp BinOp.add 9 (Operand.tmp 87) (Operand.tmp 91) 9, 9, _, _, some (8, true)⟩) (v := .string (x1 ++ s1)) rfl (by kernel_rfl) (by kernel_rfl) (by kernel_rfl) (fun _ _ _ h => h) (Or.inl ⟨by rfl, fun W hW => ?_⟩) (by assumption) ?_
          · (go_simp; omega)
          simp only [Act.put, List.setIfInBounds_toArray, List.set_cons_zero, List.set_cons_succ]
          refine wpAnyH_take (i := 25) (oi := ⟨some 99, Op.binOp BinOp.add 9 (Operand.tmp 92) (Operand.tmp 98) 9, 9, _, _, some (8, true)⟩) (v := .string (x1 ++ s1 ++ x3)) rfl (by kernel_rfl) (by kernel_rfl) (by kernel_rfl) (fun _ _ _ h => h) (Or.inl ⟨by rfl, fun W hW => ?_⟩) (by assumption) ?_
          · (go_simp; omega)
          simp only [Act.put, List.setIfInBounds_toArray, List.set_cons_zero, List.set_cons_succ]
          refine wpAnyH_take (i := 26) (oi := ⟨some 100, Op.binOp BinOp.eql 9 (Operand.tmp 83) (Operand.tmp 99) 9, 4, _, _, some (8, true)⟩) (v := .bool true) rfl (by kernel_rfl) (by kernel_rfl) (by kernel_rfl) (fun _ _ _ h => h) (Or.inl ⟨by rfl, fun W hW => ?_⟩) (by assumption) ?_
          · go_simp
          simp only [Act.put, List.setIfInBounds_toArray, List.set_cons_zero, List.set_cons_succ]
          refine wpAnyH_take (i := 27) (oi := ⟨some 101, Op.pick (Operand.tmp 82) (Operand.tmp 100) (Operand.const (Value.bool false)), 4, _, _, none⟩) (v := .bool true) rfl (by kernel_rfl) (by kernel_rfl) (by kernel_rfl) (fun _ _ _ h => h) (Or.inl ⟨by rfl, fun W hW => ?_⟩) (by assumption) ?_
          · go_simp
          simp only [Act.put, List.setIfInBounds_toArray, List.set_cons_zero, List.set_cons_succ]
          refine wpAnyH_take (i := 28) (oi := ⟨some 4, Op.assign (Operand.tmp 101), 4, _, _, none⟩) (v := .bool true) rfl (by kernel_rfl) (by kernel_rfl) (by kernel_rfl) (fun _ _ _ h => h) (Or.inl ⟨by rfl, fun W hW => ?_⟩) (by assumption) ?_
          · go_simp
          simp only [Act.put, List.setIfInBounds_toArray, List.set_cons_zero, List.set_cons_succ]
          refine wpAnyH_done (by kernel_rfl) ?_ _
          refine NoPanic.normal ?_
          exact hK _ _ _ _ _ _ _ _ _ _ _ _ _ _ _ _ _ _ _ _ _ _ _ _ _ _ _ _ _ QW212
end Go.Proofs.Ytcoecpglnabbpaa
