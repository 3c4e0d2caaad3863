/- made: the two statements that insert (printed by q13gen.py). -/
import Derived.Test.YteognipfnbocpaaGreatQ12
import Derived.Test.YteognipfnbocpaaGreatHeld
namespace Go.Proofs.YteognipfnbocpaaGreat
open Go.RowKit
def theRegion (k : Nat) : Code → Option Code
  | .region id ops d => if id == k then some (.region id ops d) else none
  | .seq a b => match theRegion k a with
    | some c => some c
    | none => theRegion k b
  | .cond _ a b => match theRegion k a with
    | some c => some c
    | none => theRegion k b
  | .block _ c => theRegion k c
  | .loop c => theRegion k c
  | .scope c => theRegion k c
  | _ => none
theorem info78 : (Tryz.prog.info? 78).map (fun i => (i.zero, i.size, i.bytes)) = some (some (.pointer none), 1, 8) := by kernel_rfl
theorem reads_cells_of {w : World} {b : Nat} {t : TypeId} {x : Value} {xs : List Value} (h : Blk w b t #[x]) (hx : xs = [x]) : Reads w w.heap.size 1 (some ⟨b, 0, none⟩) 1 xs := by
  subst hx
  refine ⟨rfl, fun _ => ⟨_, rfl, h.lt, fun j u hu => ?_⟩⟩
  rw [add_of_plain, Nat.zero_add, h.cell]
  simpa using hu
noncomputable def mreg7C : Code := ((Tryz.f62.body.bind (theRegion 7)).getD .skip)
set_option maxRecDepth 1000000 in
set_option maxHeartbeats 1600000 in
set_option linter.unusedSimpArgs false in
theorem mreg7_any (w : World) (p : Nat) (x : Int) (n i c : Nat) (A B : Option Addr) (xs1 xs2 : List Value) (K : Exit → Act → World → Prop) (hi : i ≤ n) (_hc : n ≤ c) (hn : n ≤ 1000000) (N3 : Nat) (hN3 : 0 + i + 1 + (n - i) = N3)
    (hS : ∀ W, Keeps [] w W → W.cell? ⟨p, 0, none⟩ = some (.slice A n c)) (hF : ∀ W, Keeps [] w W → W.frozen? ⟨p, 0, none⟩ = false)
    (hs1 : ∀ W, (Instr.slice 30 (.slice A n c) none (some (.int .i64 i)) none).run Tryz.prog W = .ok (.slice A i c) W) (hs2 : ∀ W, (Instr.slice 30 (.slice A n c) (some (.int .i64 i)) none none).run Tryz.prog W = .ok (.slice B (n - i) (c - i)) W)
    (hr1 : ∀ W, Keeps [] w W → Reads W W.heap.size 1 A i xs1) (hr2 : ∀ W, Keeps [] w W → Reads W W.heap.size 1 B (n - i) xs2) (h1 : ∀ u ∈ xs1, u.oneCell' = true) (h2 : ∀ u ∈ xs2, u.oneCell' = true)
    (u2 u3 u4 u6 u7 u8 u9 u10 u11 u12 u13 u14 u15 u16 u17 u18 u19 u20 u21 u22 u23 u24 u25 u26 u27 u28 u29 u30 u31 u32 u33 u34 u35 u36 u37 u38 u39 u40 u41 u42 u43 u44 u45 u46 u47 u48 u49 u50 u51 u52 u53 u54 u55 u56 u57 u58 u59 u60 u61 u62 u63 u64 u65 u66 u67 u68 u69 u70 u71 u72 u73 u74 u75 u76 u77 u78 u79 u80 u81 u82 u83 u84 u85 u86 u87 u88 u89 u90 u91 u92 u93 u94 u95 u96 : Value)
    (hK : ∀ (v54 v55 v56 v57 v58 v59 v60 v61 v62 v63 v64 v65 v66 v67 v68 v69 v70 v71 v72 v73 v74 : Value) (v3 : Value) (W : World), W.ownsRow 0 3 1 v3 N3 (([] ++ xs1) ++ [.int .i64 x] ++ xs2) → Keeps [] w W → (∀ g ∈ fp v3, w.heap.size ≤ g) → K .normal ⟨#[.pointer (some ⟨p, 0, none⟩), .int .i64 x, u2, u3, u4, .int .i64 i, u6, u7, u8, u9, u10, u11, u12, u13, u14, u15, u16, u17, u18, u19, u20, u21, u22, u23, u24, u25, u26, u27, u28, u29, u30, u31, u32, u33, u34, u35, u36, u37, u38, u39, u40, u41, u42, u43, u44, u45, u46, u47, u48, u49, u50, u51, u52, u53, v54, v55, v56, v57, v58, v59, v60, v61, v62, v63, v64, v65, v66, v67, v68, v69, v70, v71, v72, v73, v74, u75, u76, u77, u78, u79, u80, u81, u82, u83, u84, u85, u86, u87, u88, u89, u90, u91, u92, u93, u94, u95, u96], []⟩ (W.setCell ⟨p, 0, none⟩ v3)) :
    Code.wp Tryz.prog mreg7C K ⟨#[.pointer (some ⟨p, 0, none⟩), .int .i64 x, u2, u3, u4, .int .i64 i, u6, u7, u8, u9, u10, u11, u12, u13, u14, u15, u16, u17, u18, u19, u20, u21, u22, u23, u24, u25, u26, u27, u28, u29, u30, u31, u32, u33, u34, u35, u36, u37, u38, u39, u40, u41, u42, u43, u44, u45, u46, u47, u48, u49, u50, u51, u52, u53, u54, u55, u56, u57, u58, u59, u60, u61, u62, u63, u64, u65, u66, u67, u68, u69, u70, u71, u72, u73, u74, u75, u76, u77, u78, u79, u80, u81, u82, u83, u84, u85, u86, u87, u88, u89, u90, u91, u92, u93, u94, u95, u96], []⟩ w := by
  have HS := Lib.hid hS
  have HF := Lib.hid hF
  have HR1 := Lib.hid hr1
  have HR2 := Lib.hid hr2
  have H1 := Lib.hid h1
  have H2 := Lib.hid h2
  have HI := Lib.hid info3i
  have HN3 := Lib.hid hN3
  clear hS hF hr1 hr2 h1 h2 hN3
  conv => arg 2; whnf
  dsimp only at hK ⊢
  refine wp_region_noPanic ?_
  refine wp_region_last (S := fun W => W.cell? ⟨p, 0, none⟩ = some (.slice A n c)) 21 (by kernel_rfl) (HS.out _ ((Keeps.refl [] w).drew)) (fun hHeld => ?_)
  obtain ⟨w0, hw0⟩ : ∃ w0, w.drew = w0 := ⟨_, rfl⟩
  rw [hw0] at hHeld ⊢
  have K0 : Keeps [] w w0 := by rw [← hw0]; exact (Keeps.refl [] w).drew
  clear hw0
  refine wpG_take (nx := [19, 8, 3, 4, 5, 7, 7, 8, 11, 10, 11, 18, 13, 14, 15, 17, 17, 18, 19, 20, 21]) (i := 0) (oi := ⟨some 54, Op.move (Operand.tmp 0), 26, _, _, none⟩) (v := ?vq1) (by kernel_rfl) rfl (by decide) (by kernel_rfl) (by kernel_rfl) (by kernel_rfl) (fun _ _ _ h => h) (Or.inl ⟨by rfl, fun W hW => ?_⟩) (by assumption) ?_
  rotate_left
  · go_simp
    with_reducible rfl
  try simp only [Act.put, List.setIfInBounds_toArray, List.set_cons_zero, List.set_cons_succ]
  refine wpG_take (nx := [19, 8, 3, 4, 5, 7, 7, 8, 11, 10, 11, 18, 13, 14, 15, 17, 17, 18, 19, 20, 21]) (i := 2) (oi := ⟨some 56, Op.move (Operand.tmp 0), 26, _, _, none⟩) (v := ?vq2) (by kernel_rfl) rfl (by decide) (by kernel_rfl) (by kernel_rfl) (by kernel_rfl) (fun _ _ _ h => h) (Or.inl ⟨by rfl, fun W hW => ?_⟩) (by assumption) ?_
  rotate_left
  · go_simp
    with_reducible rfl
  try simp only [Act.put, List.setIfInBounds_toArray, List.set_cons_zero, List.set_cons_succ]
  refine wpG_take (nx := [19, 8, 3, 4, 5, 7, 7, 8, 11, 10, 11, 18, 13, 14, 15, 17, 17, 18, 19, 20, 21]) (i := 3) (oi := ⟨some 57, Op.nilCheck (Operand.tmp 56), 0, _, _, none⟩) (v := ?vq3) (by kernel_rfl) rfl (by decide) (by kernel_rfl) (by kernel_rfl) (by kernel_rfl) (fun _ _ _ h => h) (Or.inl ⟨by rfl, fun W hW => ?_⟩) (by assumption) ?_
  rotate_left
  · go_simp
    with_reducible rfl
  try simp only [Act.put, List.setIfInBounds_toArray, List.set_cons_zero, List.set_cons_succ]
  refine wpG_take (nx := [19, 8, 3, 4, 5, 7, 7, 8, 11, 10, 11, 18, 13, 14, 15, 17, 17, 18, 19, 20, 21]) (i := 4) (oi := ⟨some 58, Op.fieldAddr 39 (Operand.tmp 57) 0, 0, _, _, none⟩) (v := ?vq4) (by kernel_rfl) rfl (by decide) (by kernel_rfl) (by kernel_rfl) (by kernel_rfl) (fun _ _ _ h => h) (Or.inl ⟨by rfl, fun W hW => ?_⟩) (by assumption) ?_
  rotate_left
  · go_simp
    with_reducible rfl
  try simp only [Act.put, List.setIfInBounds_toArray, List.set_cons_zero, List.set_cons_succ]
  refine wpG_take (nx := [19, 8, 3, 4, 5, 7, 7, 8, 11, 10, 11, 18, 13, 14, 15, 17, 17, 18, 19, 20, 21]) (i := 5) (oi := ⟨some 59, Op.load 30 (Operand.tmp 58), 30, _, _, none⟩) (v := .slice A n c) (by kernel_rfl) rfl (by decide) (by kernel_rfl) (by kernel_rfl) (by kernel_rfl) (fun _ _ _ h => h) (Or.inl ⟨by rfl, fun W hW => ?_⟩) (by assumption) ?_
  · go_simp
  try simp only [Act.put, List.setIfInBounds_toArray, List.set_cons_zero, List.set_cons_succ]
  refine wpG_take (nx := [19, 8, 3, 4, 5, 7, 7, 8, 11, 10, 11, 18, 13, 14, 15, 17, 17, 18, 19, 20, 21]) (i := 6) (oi := ⟨some 60, Op.move (Operand.tmp 5), 3, _, _, none⟩) (v := ?vq5) (by kernel_rfl) rfl (by decide) (by kernel_rfl) (by kernel_rfl) (by kernel_rfl) (fun _ _ _ h => h) (Or.inl ⟨by rfl, fun W hW => ?_⟩) (by assumption) ?_
  rotate_left
  · go_simp
    with_reducible rfl
  try simp only [Act.put, List.setIfInBounds_toArray, List.set_cons_zero, List.set_cons_succ]
  refine wpG_take (nx := [19, 8, 3, 4, 5, 7, 7, 8, 11, 10, 11, 18, 13, 14, 15, 17, 17, 18, 19, 20, 21]) (i := 7) (oi := ⟨some 61, Op.slice 30 (Operand.tmp 59) none (some (Operand.tmp 60)) none, 30, _, _, none⟩) (v := .slice A i c) (by kernel_rfl) rfl (by decide) (by kernel_rfl) (by kernel_rfl) (by kernel_rfl) (fun _ _ _ h => h) (Or.inl ⟨by rfl, fun W hW => ?_⟩) (by assumption) ?_
  · go_simp
  try simp only [Act.put, List.setIfInBounds_toArray, List.set_cons_zero, List.set_cons_succ]
  refine wpG_take (nx := [19, 8, 3, 4, 5, 7, 7, 8, 11, 10, 11, 18, 13, 14, 15, 17, 17, 18, 19, 20, 21]) (i := 9) (oi := ⟨some 63, Op.move (Operand.tmp 1), 3, _, _, none⟩) (v := ?vq6) (by kernel_rfl) rfl (by decide) (by kernel_rfl) (by kernel_rfl) (by kernel_rfl) (fun _ _ _ h => h) (Or.inl ⟨by rfl, fun W hW => ?_⟩) (by assumption) ?_
  rotate_left
  · go_simp
    with_reducible rfl
  try simp only [Act.put, List.setIfInBounds_toArray, List.set_cons_zero, List.set_cons_succ]
  refine wpG_take (nx := [19, 8, 3, 4, 5, 7, 7, 8, 11, 10, 11, 18, 13, 14, 15, 17, 17, 18, 19, 20, 21]) (i := 12) (oi := ⟨some 66, Op.move (Operand.tmp 0), 26, _, _, none⟩) (v := ?vq7) (by kernel_rfl) rfl (by decide) (by kernel_rfl) (by kernel_rfl) (by kernel_rfl) (fun _ _ _ h => h) (Or.inl ⟨by rfl, fun W hW => ?_⟩) (by assumption) ?_
  rotate_left
  · go_simp
    with_reducible rfl
  try simp only [Act.put, List.setIfInBounds_toArray, List.set_cons_zero, List.set_cons_succ]
  refine wpG_take (nx := [19, 8, 3, 4, 5, 7, 7, 8, 11, 10, 11, 18, 13, 14, 15, 17, 17, 18, 19, 20, 21]) (i := 13) (oi := ⟨some 67, Op.nilCheck (Operand.tmp 66), 0, _, _, none⟩) (v := ?vq8) (by kernel_rfl) rfl (by decide) (by kernel_rfl) (by kernel_rfl) (by kernel_rfl) (fun _ _ _ h => h) (Or.inl ⟨by rfl, fun W hW => ?_⟩) (by assumption) ?_
  rotate_left
  · go_simp
    with_reducible rfl
  try simp only [Act.put, List.setIfInBounds_toArray, List.set_cons_zero, List.set_cons_succ]
  refine wpG_take (nx := [19, 8, 3, 4, 5, 7, 7, 8, 11, 10, 11, 18, 13, 14, 15, 17, 17, 18, 19, 20, 21]) (i := 14) (oi := ⟨some 68, Op.fieldAddr 39 (Operand.tmp 67) 0, 0, _, _, none⟩) (v := ?vq9) (by kernel_rfl) rfl (by decide) (by kernel_rfl) (by kernel_rfl) (by kernel_rfl) (fun _ _ _ h => h) (Or.inl ⟨by rfl, fun W hW => ?_⟩) (by assumption) ?_
  rotate_left
  · go_simp
    with_reducible rfl
  try simp only [Act.put, List.setIfInBounds_toArray, List.set_cons_zero, List.set_cons_succ]
  refine wpG_take (nx := [19, 8, 3, 4, 5, 7, 7, 8, 11, 10, 11, 18, 13, 14, 15, 17, 17, 18, 19, 20, 21]) (i := 15) (oi := ⟨some 69, Op.load 30 (Operand.tmp 68), 30, _, _, none⟩) (v := .slice A n c) (by kernel_rfl) rfl (by decide) (by kernel_rfl) (by kernel_rfl) (by kernel_rfl) (fun _ _ _ h => h) (Or.inl ⟨by rfl, fun W hW => ?_⟩) (by assumption) ?_
  · go_simp
  try simp only [Act.put, List.setIfInBounds_toArray, List.set_cons_zero, List.set_cons_succ]
  refine wpG_take (nx := [19, 8, 3, 4, 5, 7, 7, 8, 11, 10, 11, 18, 13, 14, 15, 17, 17, 18, 19, 20, 21]) (i := 16) (oi := ⟨some 70, Op.move (Operand.tmp 5), 3, _, _, none⟩) (v := ?vq10) (by kernel_rfl) rfl (by decide) (by kernel_rfl) (by kernel_rfl) (by kernel_rfl) (fun _ _ _ h => h) (Or.inl ⟨by rfl, fun W hW => ?_⟩) (by assumption) ?_
  rotate_left
  · go_simp
    with_reducible rfl
  try simp only [Act.put, List.setIfInBounds_toArray, List.set_cons_zero, List.set_cons_succ]
  refine wpG_take (nx := [19, 8, 3, 4, 5, 7, 7, 8, 11, 10, 11, 18, 13, 14, 15, 17, 17, 18, 19, 20, 21]) (i := 17) (oi := ⟨some 71, Op.slice 30 (Operand.tmp 69) (some (Operand.tmp 70)) none none, 30, _, _, none⟩) (v := .slice B (n - i) (c - i)) (by kernel_rfl) rfl (by decide) (by kernel_rfl) (by kernel_rfl) (by kernel_rfl) (fun _ _ _ h => h) (Or.inl ⟨by rfl, fun W hW => ?_⟩) (by assumption) ?_
  · go_simp
  try simp only [Act.put, List.setIfInBounds_toArray, List.set_cons_zero, List.set_cons_succ]
  refine wpG_ready (rs := [1, 10]) (by kernel_rfl) (by simp) ?_
  refine AllG.cons (o := ⟨some 55, Op.buildSlice 30 0 #[], 30, _, _, none⟩) rfl (fun KK hKK => ?_) (AllG.cons (o := ⟨some 64, Op.buildSlice 30 1 #[(0, Operand.tmp 63)], 30, _, _, none⟩) rfl (fun KK hKK => ?_) AllG.nil)
  · go_simp
    obtain ⟨b12, f16⟩ : ∃ b, w0.heap.size = b := ⟨_, rfl⟩
    rw [f16]
    obtain ⟨W11, e15⟩ : ∃ W, World.alloc w0 (.cells #[] 3) = W := ⟨_, rfl⟩
    rw [e15]
    have kk13 : Keeps [] w0 W11 := by rw [← e15]; exact (Keeps.refl [] _).alloc _
    have K14 : Keeps [] w W11 := K0.trans kk13 (by simp)
    have oa17 : W11.ownsRow 0 3 1 (.slice (some ⟨b12, 0, none⟩) 0 0) 0 ([] : List Value) := by rw [← e15, ← f16]; exact own_of_blk (Blk.new _ 3 #[]) (by omega) (by omega) rfl rfl
    have g18 : w.heap.size ≤ b12 := by have := K0.size; omega
    refine hKK.out _ _ (HS.out _ K14) (fun hHeld => ?_)
    clear hKK KK e15 f16
    try simp only [Act.put, List.setIfInBounds_toArray, List.set_cons_zero, List.set_cons_succ]
    refine wpG_ready (rs := [8, 10]) (by kernel_rfl) (by simp) ?_
    refine AllG.cons (o := ⟨some 62, Op.call { callee := Callee.builtin Builtin.append, args := #[Operand.tmp 55, Operand.tmp 61], argTypes := #[30, 30] }, 30, _, _, none⟩) rfl (fun KK hKK => ?_) (AllG.cons (o := ⟨some 64, Op.buildSlice 30 1 #[(0, Operand.tmp 63)], 30, _, _, none⟩) rfl (fun KK hKK => ?_) AllG.nil)
    · refine step_app (by rfl) (.tmp 55) (.tmp 61) 30 (by rfl) 3 (.int .i64 0) 1 8 Tryz.underlying30 HI.out rfl (by omega) (.slice (some ⟨b12, 0, none⟩) 0 0) 0 (([] : List Value)) ?_ oa17 _ A i c xs1 ?_ (HR1.out _ K14) H1.out (by unfold maxLen; omega) (by omega) (fun v20 W19 oa21 kk22 f23 => ?_)
      · first | (simp [Act.eval]; done) | (simp [Act.eval, Act.put]; done)
      · first | (simp [Act.eval]; done) | (simp [Act.eval, Act.put]; done)
      have ge25 : ∀ g ∈ fp (.slice (some ⟨b12, 0, none⟩) 0 0), w.heap.size ≤ g := fun g hg => by have h0 : g = b12 := (by simpa [fp, Value.ownBlock] using hg); omega
      have K24 : Keeps [] w W19 := K14.trans kk22 (fun g hg => .inr (ge25 g hg))
      have g26 : ∀ g ∈ fp v20, w.heap.size ≤ g := fun g hg => (f23 g hg).elim (ge25 g) (fun h => by have := K14.size; omega)
      refine hKK.out _ _ (HS.out _ K24) (fun hHeld => ?_)
      clear hKK KK
      try simp only [Act.put, List.setIfInBounds_toArray, List.set_cons_zero, List.set_cons_succ]
      refine wpG_ready (rs := [10]) (by kernel_rfl) (by simp) ?_
      refine AllG.cons (o := ⟨some 64, Op.buildSlice 30 1 #[(0, Operand.tmp 63)], 30, _, _, none⟩) rfl (fun KK hKK => ?_) AllG.nil
      go_simp
      obtain ⟨b28, f32⟩ : ∃ b, W19.heap.size = b := ⟨_, rfl⟩
      rw [f32]
      obtain ⟨W27, e31⟩ : ∃ W, World.alloc W19 (.cells #[.int .i64 x] 3) = W := ⟨_, rfl⟩
      rw [e31]
      have kk29 : Keeps [] W19 W27 := by rw [← e31]; exact (Keeps.refl [] _).alloc _
      have K30 : Keeps [] w W27 := K24.trans kk29 (by simp)
      have oa33 : W27.ownsRow 0 3 1 v20 (0 + i) (([] : List Value) ++ xs1) := own_keep oa21 kk29 (by simp)
      have bx34 : Blk W27 b28 3 #[.int .i64 x] := by rw [← e31, ← f32]; exact Blk.new _ _ _
      refine hKK.out _ _ (HS.out _ K30) (fun hHeld => ?_)
      clear hKK KK e31 f32
      try simp only [Act.put, List.setIfInBounds_toArray, List.set_cons_zero, List.set_cons_succ]
      refine wpG_ready (rs := [11]) (by kernel_rfl) (by simp) ?_
      refine AllG.cons (o := ⟨some 65, Op.call { callee := Callee.builtin Builtin.append, args := #[Operand.tmp 62, Operand.tmp 64], argTypes := #[30, 30] }, 30, _, _, none⟩) rfl (fun KK hKK => ?_) AllG.nil
      refine step_app (by rfl) (.tmp 62) (.tmp 64) 30 (by rfl) 3 (.int .i64 0) 1 8 Tryz.underlying30 HI.out rfl (by omega) v20 (0 + i) (([] : List Value) ++ xs1) ?_ oa33 _ (some ⟨b28, 0, none⟩) 1 1 [.int .i64 x] ?_ (reads_cells_of bx34 rfl) (by simp [Value.oneCell']) (by unfold maxLen; omega) (by omega) (fun v36 W35 oa37 kk38 f39 => ?_)
      · first | (simp [Act.eval]; done) | (simp [Act.eval, Act.put]; done)
      · first | (simp [Act.eval]; done) | (simp [Act.eval, Act.put]; done)
      have ge41 : ∀ g ∈ fp v20, w.heap.size ≤ g := g26
      have K40 : Keeps [] w W35 := K30.trans kk38 (fun g hg => .inr (ge41 g hg))
      have g42 : ∀ g ∈ fp v36, w.heap.size ≤ g := fun g hg => (f39 g hg).elim (ge41 g) (fun h => by have := K30.size; omega)
      refine hKK.out _ _ (HS.out _ K40) (fun hHeld => ?_)
      clear hKK KK
      try simp only [Act.put, List.setIfInBounds_toArray, List.set_cons_zero, List.set_cons_succ]
      refine wpG_ready (rs := [18]) (by kernel_rfl) (by simp) ?_
      refine AllG.cons (o := ⟨some 72, Op.call { callee := Callee.builtin Builtin.append, args := #[Operand.tmp 65, Operand.tmp 71], argTypes := #[30, 30] }, 30, _, _, none⟩) rfl (fun KK hKK => ?_) AllG.nil
      refine step_app (by rfl) (.tmp 65) (.tmp 71) 30 (by rfl) 3 (.int .i64 0) 1 8 Tryz.underlying30 HI.out rfl (by omega) v36 ((0 + i) + 1) ((([] : List Value) ++ xs1) ++ [.int .i64 x]) ?_ oa37 _ B (n - i) (c - i) xs2 ?_ (HR2.out _ K40) H2.out (by unfold maxLen; omega) (by omega) (fun v44 W43 oa45 kk46 f47 => ?_)
      · first | (simp [Act.eval]; done) | (simp [Act.eval, Act.put]; done)
      · first | (simp [Act.eval]; done) | (simp [Act.eval, Act.put]; done)
      have ge49 : ∀ g ∈ fp v36, w.heap.size ≤ g := g42
      have K48 : Keeps [] w W43 := K40.trans kk46 (fun g hg => .inr (ge49 g hg))
      have g50 : ∀ g ∈ fp v44, w.heap.size ≤ g := fun g hg => (f47 g hg).elim (ge49 g) (fun h => by have := K40.size; omega)
      rw [HN3.out] at oa45
      obtain ⟨A51, c52, rfl, -, -, -⟩ := own_shape oa45
      refine hKK.out _ _ (HS.out _ K48) (fun hHeld => ?_)
      clear hKK KK
      try simp only [Act.put, List.setIfInBounds_toArray, List.set_cons_zero, List.set_cons_succ]
      refine wpG_take (nx := [19, 8, 3, 4, 5, 7, 7, 8, 11, 10, 11, 18, 13, 14, 15, 17, 17, 18, 19, 20, 21]) (i := 19) (oi := ⟨some 73, Op.nilCheck (Operand.tmp 54), 0, _, _, none⟩) (v := ?vq53) (by kernel_rfl) rfl (by decide) (by kernel_rfl) (by kernel_rfl) (by kernel_rfl) (fun _ _ _ h => h) (Or.inl ⟨by rfl, fun W hW => ?_⟩) (by assumption) ?_
      rotate_left
      · go_simp
        with_reducible rfl
      try simp only [Act.put, List.setIfInBounds_toArray, List.set_cons_zero, List.set_cons_succ]
      refine wpG_take (nx := [19, 8, 3, 4, 5, 7, 7, 8, 11, 10, 11, 18, 13, 14, 15, 17, 17, 18, 19, 20, 21]) (i := 20) (oi := ⟨some 74, Op.fieldAddr 39 (Operand.tmp 73) 0, 0, _, _, none⟩) (v := ?vq54) (by kernel_rfl) rfl (by decide) (by kernel_rfl) (by kernel_rfl) (by kernel_rfl) (fun _ _ _ h => h) (Or.inl ⟨by rfl, fun W hW => ?_⟩) (by assumption) ?_
      rotate_left
      · go_simp
        with_reducible rfl
      try simp only [Act.put, List.setIfInBounds_toArray, List.set_cons_zero, List.set_cons_succ]
      refine wpG_ready (rs := [21]) (by kernel_rfl) (by simp) ?_
      refine AllG.last (o := ⟨none, Op.store 30 (Operand.tmp 74) (Operand.tmp 72), 0, _, _, none⟩) rfl (fun KK hKK => ?_)
      have hc0 := HS.out _ K48
      have hf0 := HF.out _ K48
      go_simp
      refine hKK.out _ _ ?_
      clear hKK KK hHeld
      try simp only [Act.put, List.setIfInBounds_toArray, List.set_cons_zero, List.set_cons_succ]
      refine wpG_done (by kernel_rfl) ?_ _
      refine NoPanic.normal ?_
      exact hK _ _ _ _ _ _ _ _ _ _ _ _ _ _ _ _ _ _ _ _ _ (.slice A51 N3 c52) W43 oa45 K48 g50
    · go_simp
      obtain ⟨b56, f60⟩ : ∃ b, W11.heap.size = b := ⟨_, rfl⟩
      rw [f60]
      obtain ⟨W55, e59⟩ : ∃ W, World.alloc W11 (.cells #[.int .i64 x] 3) = W := ⟨_, rfl⟩
      rw [e59]
      have kk57 : Keeps [] W11 W55 := by rw [← e59]; exact (Keeps.refl [] _).alloc _
      have K58 : Keeps [] w W55 := K14.trans kk57 (by simp)
      have oa61 : W55.ownsRow 0 3 1 (.slice (some ⟨b12, 0, none⟩) 0 0) 0 (([] : List Value)) := own_keep oa17 kk57 (by simp)
      have bx62 : Blk W55 b56 3 #[.int .i64 x] := by rw [← e59, ← f60]; exact Blk.new _ _ _
      have ne63 : b56 ≠ b12 := by have := own_lt oa17 (g := b12) (by simp [fp, Value.ownBlock]); omega
      refine hKK.out _ _ (HS.out _ K58) (fun hHeld => ?_)
      clear hKK KK e59 f60
      try simp only [Act.put, List.setIfInBounds_toArray, List.set_cons_zero, List.set_cons_succ]
      refine wpG_ready (rs := [8]) (by kernel_rfl) (by simp) ?_
      refine AllG.cons (o := ⟨some 62, Op.call { callee := Callee.builtin Builtin.append, args := #[Operand.tmp 55, Operand.tmp 61], argTypes := #[30, 30] }, 30, _, _, none⟩) rfl (fun KK hKK => ?_) AllG.nil
      refine step_app (by rfl) (.tmp 55) (.tmp 61) 30 (by rfl) 3 (.int .i64 0) 1 8 Tryz.underlying30 HI.out rfl (by omega) (.slice (some ⟨b12, 0, none⟩) 0 0) 0 (([] : List Value)) ?_ oa61 _ A i c xs1 ?_ (HR1.out _ K58) H1.out (by unfold maxLen; omega) (by omega) (fun v65 W64 oa66 kk67 f68 => ?_)
      · first | (simp [Act.eval]; done) | (simp [Act.eval, Act.put]; done)
      · first | (simp [Act.eval]; done) | (simp [Act.eval, Act.put]; done)
      have ge70 : ∀ g ∈ fp (.slice (some ⟨b12, 0, none⟩) 0 0), w.heap.size ≤ g := fun g hg => by have h0 : g = b12 := (by simpa [fp, Value.ownBlock] using hg); omega
      have K69 : Keeps [] w W64 := K58.trans kk67 (fun g hg => .inr (ge70 g hg))
      have bx71 : Blk W64 b56 3 #[.int .i64 x] := bx62.keep kk67 (fun h0 => ne63 (by simpa [fp, Value.ownBlock] using h0))
      have g72 : ∀ g ∈ fp v65, w.heap.size ≤ g := fun g hg => (f68 g hg).elim (ge70 g) (fun h => by have := K58.size; omega)
      refine hKK.out _ _ (HS.out _ K69) (fun hHeld => ?_)
      clear hKK KK
      try simp only [Act.put, List.setIfInBounds_toArray, List.set_cons_zero, List.set_cons_succ]
      refine wpG_ready (rs := [11]) (by kernel_rfl) (by simp) ?_
      refine AllG.cons (o := ⟨some 65, Op.call { callee := Callee.builtin Builtin.append, args := #[Operand.tmp 62, Operand.tmp 64], argTypes := #[30, 30] }, 30, _, _, none⟩) rfl (fun KK hKK => ?_) AllG.nil
      refine step_app (by rfl) (.tmp 62) (.tmp 64) 30 (by rfl) 3 (.int .i64 0) 1 8 Tryz.underlying30 HI.out rfl (by omega) v65 (0 + i) (([] : List Value) ++ xs1) ?_ oa66 _ (some ⟨b56, 0, none⟩) 1 1 [.int .i64 x] ?_ (reads_cells_of bx71 rfl) (by simp [Value.oneCell']) (by unfold maxLen; omega) (by omega) (fun v74 W73 oa75 kk76 f77 => ?_)
      · first | (simp [Act.eval]; done) | (simp [Act.eval, Act.put]; done)
      · first | (simp [Act.eval]; done) | (simp [Act.eval, Act.put]; done)
      have ge79 : ∀ g ∈ fp v65, w.heap.size ≤ g := g72
      have K78 : Keeps [] w W73 := K69.trans kk76 (fun g hg => .inr (ge79 g hg))
      have g80 : ∀ g ∈ fp v74, w.heap.size ≤ g := fun g hg => (f77 g hg).elim (ge79 g) (fun h => by have := K69.size; omega)
      refine hKK.out _ _ (HS.out _ K78) (fun hHeld => ?_)
      clear hKK KK
      try simp only [Act.put, List.setIfInBounds_toArray, List.set_cons_zero, List.set_cons_succ]
      refine wpG_ready (rs := [18]) (by kernel_rfl) (by simp) ?_
      refine AllG.cons (o := ⟨some 72, Op.call { callee := Callee.builtin Builtin.append, args := #[Operand.tmp 65, Operand.tmp 71], argTypes := #[30, 30] }, 30, _, _, none⟩) rfl (fun KK hKK => ?_) AllG.nil
      refine step_app (by rfl) (.tmp 65) (.tmp 71) 30 (by rfl) 3 (.int .i64 0) 1 8 Tryz.underlying30 HI.out rfl (by omega) v74 ((0 + i) + 1) ((([] : List Value) ++ xs1) ++ [.int .i64 x]) ?_ oa75 _ B (n - i) (c - i) xs2 ?_ (HR2.out _ K78) H2.out (by unfold maxLen; omega) (by omega) (fun v82 W81 oa83 kk84 f85 => ?_)
      · first | (simp [Act.eval]; done) | (simp [Act.eval, Act.put]; done)
      · first | (simp [Act.eval]; done) | (simp [Act.eval, Act.put]; done)
      have ge87 : ∀ g ∈ fp v74, w.heap.size ≤ g := g80
      have K86 : Keeps [] w W81 := K78.trans kk84 (fun g hg => .inr (ge87 g hg))
      have g88 : ∀ g ∈ fp v82, w.heap.size ≤ g := fun g hg => (f85 g hg).elim (ge87 g) (fun h => by have := K78.size; omega)
      rw [HN3.out] at oa83
      obtain ⟨A89, c90, rfl, -, -, -⟩ := own_shape oa83
      refine hKK.out _ _ (HS.out _ K86) (fun hHeld => ?_)
      clear hKK KK
      try simp only [Act.put, List.setIfInBounds_toArray, List.set_cons_zero, List.set_cons_succ]
      refine wpG_take (nx := [19, 8, 3, 4, 5, 7, 7, 8, 11, 10, 11, 18, 13, 14, 15, 17, 17, 18, 19, 20, 21]) (i := 19) (oi := ⟨some 73, Op.nilCheck (Operand.tmp 54), 0, _, _, none⟩) (v := ?vq91) (by kernel_rfl) rfl (by decide) (by kernel_rfl) (by kernel_rfl) (by kernel_rfl) (fun _ _ _ h => h) (Or.inl ⟨by rfl, fun W hW => ?_⟩) (by assumption) ?_
      rotate_left
      · go_simp
        with_reducible rfl
      try simp only [Act.put, List.setIfInBounds_toArray, List.set_cons_zero, List.set_cons_succ]
      refine wpG_take (nx := [19, 8, 3, 4, 5, 7, 7, 8, 11, 10, 11, 18, 13, 14, 15, 17, 17, 18, 19, 20, 21]) (i := 20) (oi := ⟨some 74, Op.fieldAddr 39 (Operand.tmp 73) 0, 0, _, _, none⟩) (v := ?vq92) (by kernel_rfl) rfl (by decide) (by kernel_rfl) (by kernel_rfl) (by kernel_rfl) (fun _ _ _ h => h) (Or.inl ⟨by rfl, fun W hW => ?_⟩) (by assumption) ?_
      rotate_left
      · go_simp
        with_reducible rfl
      try simp only [Act.put, List.setIfInBounds_toArray, List.set_cons_zero, List.set_cons_succ]
      refine wpG_ready (rs := [21]) (by kernel_rfl) (by simp) ?_
      refine AllG.last (o := ⟨none, Op.store 30 (Operand.tmp 74) (Operand.tmp 72), 0, _, _, none⟩) rfl (fun KK hKK => ?_)
      have hc0 := HS.out _ K86
      have hf0 := HF.out _ K86
      go_simp
      refine hKK.out _ _ ?_
      clear hKK KK hHeld
      try simp only [Act.put, List.setIfInBounds_toArray, List.set_cons_zero, List.set_cons_succ]
      refine wpG_done (by kernel_rfl) ?_ _
      refine NoPanic.normal ?_
      exact hK _ _ _ _ _ _ _ _ _ _ _ _ _ _ _ _ _ _ _ _ _ (.slice A89 N3 c90) W81 oa83 K86 g88
  · go_simp
    obtain ⟨b94, f98⟩ : ∃ b, w0.heap.size = b := ⟨_, rfl⟩
    rw [f98]
    obtain ⟨W93, e97⟩ : ∃ W, World.alloc w0 (.cells #[.int .i64 x] 3) = W := ⟨_, rfl⟩
    rw [e97]
    have kk95 : Keeps [] w0 W93 := by rw [← e97]; exact (Keeps.refl [] _).alloc _
    have K96 : Keeps [] w W93 := K0.trans kk95 (by simp)
    have bx99 : Blk W93 b94 3 #[.int .i64 x] := by rw [← e97, ← f98]; exact Blk.new _ _ _
    refine hKK.out _ _ (HS.out _ K96) (fun hHeld => ?_)
    clear hKK KK e97 f98
    try simp only [Act.put, List.setIfInBounds_toArray, List.set_cons_zero, List.set_cons_succ]
    refine wpG_ready (rs := [1]) (by kernel_rfl) (by simp) ?_
    refine AllG.cons (o := ⟨some 55, Op.buildSlice 30 0 #[], 30, _, _, none⟩) rfl (fun KK hKK => ?_) AllG.nil
    go_simp
    obtain ⟨b101, f105⟩ : ∃ b, W93.heap.size = b := ⟨_, rfl⟩
    rw [f105]
    obtain ⟨W100, e104⟩ : ∃ W, World.alloc W93 (.cells #[] 3) = W := ⟨_, rfl⟩
    rw [e104]
    have kk102 : Keeps [] W93 W100 := by rw [← e104]; exact (Keeps.refl [] _).alloc _
    have K103 : Keeps [] w W100 := K96.trans kk102 (by simp)
    have bx106 : Blk W100 b94 3 #[.int .i64 x] := bx99.keep kk102 (by simp)
    have oa107 : W100.ownsRow 0 3 1 (.slice (some ⟨b101, 0, none⟩) 0 0) 0 ([] : List Value) := by rw [← e104, ← f105]; exact own_of_blk (Blk.new _ 3 #[]) (by omega) (by omega) rfl rfl
    have g108 : w.heap.size ≤ b101 := by have := K96.size; omega
    have ne109 : b94 ≠ b101 := by have := bx99.lt; omega
    refine hKK.out _ _ (HS.out _ K103) (fun hHeld => ?_)
    clear hKK KK e104 f105
    try simp only [Act.put, List.setIfInBounds_toArray, List.set_cons_zero, List.set_cons_succ]
    refine wpG_ready (rs := [8]) (by kernel_rfl) (by simp) ?_
    refine AllG.cons (o := ⟨some 62, Op.call { callee := Callee.builtin Builtin.append, args := #[Operand.tmp 55, Operand.tmp 61], argTypes := #[30, 30] }, 30, _, _, none⟩) rfl (fun KK hKK => ?_) AllG.nil
    refine step_app (by rfl) (.tmp 55) (.tmp 61) 30 (by rfl) 3 (.int .i64 0) 1 8 Tryz.underlying30 HI.out rfl (by omega) (.slice (some ⟨b101, 0, none⟩) 0 0) 0 (([] : List Value)) ?_ oa107 _ A i c xs1 ?_ (HR1.out _ K103) H1.out (by unfold maxLen; omega) (by omega) (fun v111 W110 oa112 kk113 f114 => ?_)
    · first | (simp [Act.eval]; done) | (simp [Act.eval, Act.put]; done)
    · first | (simp [Act.eval]; done) | (simp [Act.eval, Act.put]; done)
    have ge116 : ∀ g ∈ fp (.slice (some ⟨b101, 0, none⟩) 0 0), w.heap.size ≤ g := fun g hg => by have h0 : g = b101 := (by simpa [fp, Value.ownBlock] using hg); omega
    have K115 : Keeps [] w W110 := K103.trans kk113 (fun g hg => .inr (ge116 g hg))
    have bx117 : Blk W110 b94 3 #[.int .i64 x] := bx106.keep kk113 (fun h0 => ne109 (by simpa [fp, Value.ownBlock] using h0))
    have g118 : ∀ g ∈ fp v111, w.heap.size ≤ g := fun g hg => (f114 g hg).elim (ge116 g) (fun h => by have := K103.size; omega)
    refine hKK.out _ _ (HS.out _ K115) (fun hHeld => ?_)
    clear hKK KK
    try simp only [Act.put, List.setIfInBounds_toArray, List.set_cons_zero, List.set_cons_succ]
    refine wpG_ready (rs := [11]) (by kernel_rfl) (by simp) ?_
    refine AllG.cons (o := ⟨some 65, Op.call { callee := Callee.builtin Builtin.append, args := #[Operand.tmp 62, Operand.tmp 64], argTypes := #[30, 30] }, 30, _, _, none⟩) rfl (fun KK hKK => ?_) AllG.nil
    refine step_app (by rfl) (.tmp 62) (.tmp 64) 30 (by rfl) 3 (.int .i64 0) 1 8 Tryz.underlying30 HI.out rfl (by omega) v111 (0 + i) (([] : List Value) ++ xs1) ?_ oa112 _ (some ⟨b94, 0, none⟩) 1 1 [.int .i64 x] ?_ (reads_cells_of bx117 rfl) (by simp [Value.oneCell']) (by unfold maxLen; omega) (by omega) (fun v120 W119 oa121 kk122 f123 => ?_)
    · first | (simp [Act.eval]; done) | (simp [Act.eval, Act.put]; done)
    · first | (simp [Act.eval]; done) | (simp [Act.eval, Act.put]; done)
    have ge125 : ∀ g ∈ fp v111, w.heap.size ≤ g := g118
    have K124 : Keeps [] w W119 := K115.trans kk122 (fun g hg => .inr (ge125 g hg))
    have g126 : ∀ g ∈ fp v120, w.heap.size ≤ g := fun g hg => (f123 g hg).elim (ge125 g) (fun h => by have := K115.size; omega)
    refine hKK.out _ _ (HS.out _ K124) (fun hHeld => ?_)
    clear hKK KK
    try simp only [Act.put, List.setIfInBounds_toArray, List.set_cons_zero, List.set_cons_succ]
    refine wpG_ready (rs := [18]) (by kernel_rfl) (by simp) ?_
    refine AllG.cons (o := ⟨some 72, Op.call { callee := Callee.builtin Builtin.append, args := #[Operand.tmp 65, Operand.tmp 71], argTypes := #[30, 30] }, 30, _, _, none⟩) rfl (fun KK hKK => ?_) AllG.nil
    refine step_app (by rfl) (.tmp 65) (.tmp 71) 30 (by rfl) 3 (.int .i64 0) 1 8 Tryz.underlying30 HI.out rfl (by omega) v120 ((0 + i) + 1) ((([] : List Value) ++ xs1) ++ [.int .i64 x]) ?_ oa121 _ B (n - i) (c - i) xs2 ?_ (HR2.out _ K124) H2.out (by unfold maxLen; omega) (by omega) (fun v128 W127 oa129 kk130 f131 => ?_)
    · first | (simp [Act.eval]; done) | (simp [Act.eval, Act.put]; done)
    · first | (simp [Act.eval]; done) | (simp [Act.eval, Act.put]; done)
    have ge133 : ∀ g ∈ fp v120, w.heap.size ≤ g := g126
    have K132 : Keeps [] w W127 := K124.trans kk130 (fun g hg => .inr (ge133 g hg))
    have g134 : ∀ g ∈ fp v128, w.heap.size ≤ g := fun g hg => (f131 g hg).elim (ge133 g) (fun h => by have := K124.size; omega)
    rw [HN3.out] at oa129
    obtain ⟨A135, c136, rfl, -, -, -⟩ := own_shape oa129
    refine hKK.out _ _ (HS.out _ K132) (fun hHeld => ?_)
    clear hKK KK
    try simp only [Act.put, List.setIfInBounds_toArray, List.set_cons_zero, List.set_cons_succ]
    refine wpG_take (nx := [19, 8, 3, 4, 5, 7, 7, 8, 11, 10, 11, 18, 13, 14, 15, 17, 17, 18, 19, 20, 21]) (i := 19) (oi := ⟨some 73, Op.nilCheck (Operand.tmp 54), 0, _, _, none⟩) (v := ?vq137) (by kernel_rfl) rfl (by decide) (by kernel_rfl) (by kernel_rfl) (by kernel_rfl) (fun _ _ _ h => h) (Or.inl ⟨by rfl, fun W hW => ?_⟩) (by assumption) ?_
    rotate_left
    · go_simp
      with_reducible rfl
    try simp only [Act.put, List.setIfInBounds_toArray, List.set_cons_zero, List.set_cons_succ]
    refine wpG_take (nx := [19, 8, 3, 4, 5, 7, 7, 8, 11, 10, 11, 18, 13, 14, 15, 17, 17, 18, 19, 20, 21]) (i := 20) (oi := ⟨some 74, Op.fieldAddr 39 (Operand.tmp 73) 0, 0, _, _, none⟩) (v := ?vq138) (by kernel_rfl) rfl (by decide) (by kernel_rfl) (by kernel_rfl) (by kernel_rfl) (fun _ _ _ h => h) (Or.inl ⟨by rfl, fun W hW => ?_⟩) (by assumption) ?_
    rotate_left
    · go_simp
      with_reducible rfl
    try simp only [Act.put, List.setIfInBounds_toArray, List.set_cons_zero, List.set_cons_succ]
    refine wpG_ready (rs := [21]) (by kernel_rfl) (by simp) ?_
    refine AllG.last (o := ⟨none, Op.store 30 (Operand.tmp 74) (Operand.tmp 72), 0, _, _, none⟩) rfl (fun KK hKK => ?_)
    have hc0 := HS.out _ K132
    have hf0 := HF.out _ K132
    go_simp
    refine hKK.out _ _ ?_
    clear hKK KK hHeld
    try simp only [Act.put, List.setIfInBounds_toArray, List.set_cons_zero, List.set_cons_succ]
    refine wpG_done (by kernel_rfl) ?_ _
    refine NoPanic.normal ?_
    exact hK _ _ _ _ _ _ _ _ _ _ _ _ _ _ _ _ _ _ _ _ _ (.slice A135 N3 c136) W127 oa129 K132 g134
noncomputable def mreg8C : Code := ((Tryz.f62.body.bind (theRegion 8)).getD .skip)
set_option maxRecDepth 1000000 in
set_option maxHeartbeats 1600000 in
set_option linter.unusedSimpArgs false in
theorem mreg8_any (w : World) (p : Nat) (q : Nat) (n i c : Nat) (A B : Option Addr) (xs1 xs2 : List Value) (K : Exit → Act → World → Prop) (hi : i ≤ n) (_hc : n ≤ c) (hn : n ≤ 1000000) (N3 : Nat) (hN3 : 0 + i + 1 + (n - i) = N3)
    (hS : ∀ W, Keeps [] w W → W.cell? ⟨p, 1, none⟩ = some (.slice A n c)) (hF : ∀ W, Keeps [] w W → W.frozen? ⟨p, 1, none⟩ = false)
    (hs1 : ∀ W, (Instr.slice 36 (.slice A n c) none (some (.int .i64 i)) none).run Tryz.prog W = .ok (.slice A i c) W) (hs2 : ∀ W, (Instr.slice 36 (.slice A n c) (some (.int .i64 i)) none none).run Tryz.prog W = .ok (.slice B (n - i) (c - i)) W)
    (hr1 : ∀ W, Keeps [] w W → Reads W W.heap.size 1 A i xs1) (hr2 : ∀ W, Keeps [] w W → Reads W W.heap.size 1 B (n - i) xs2) (h1 : ∀ u ∈ xs1, u.oneCell' = true) (h2 : ∀ u ∈ xs2, u.oneCell' = true)
    (u1 u2 u3 u4 u7 u8 u9 u10 u11 u12 u13 u14 u15 u16 u17 u18 u19 u20 u21 u22 u23 u24 u25 u26 u27 u28 u29 u30 u31 u32 u33 u34 u35 u36 u37 u38 u39 u40 u41 u42 u43 u44 u45 u46 u47 u48 u49 u50 u51 u52 u53 u54 u55 u56 u57 u58 u59 u60 u61 u62 u63 u64 u65 u66 u67 u68 u69 u70 u71 u72 u73 u74 u75 u76 u77 u78 u79 u80 u81 u82 u83 u84 u85 u86 u87 u88 u89 u90 u91 u92 u93 u94 u95 u96 : Value)
    (hK : ∀ (v75 v76 v77 v78 v79 v80 v81 v82 v83 v84 v85 v86 v87 v88 v89 v90 v91 v92 v93 v94 v95 : Value) (v3 : Value) (W : World), W.ownsRow 0 78 1 v3 N3 (([] ++ xs1) ++ [.pointer (some ⟨q, 0, none⟩)] ++ xs2) → Keeps [] w W → (∀ g ∈ fp v3, w.heap.size ≤ g) → K .normal ⟨#[.pointer (some ⟨p, 0, none⟩), u1, u2, u3, u4, .int .i64 i, .pointer (some ⟨q, 0, none⟩), u7, u8, u9, u10, u11, u12, u13, u14, u15, u16, u17, u18, u19, u20, u21, u22, u23, u24, u25, u26, u27, u28, u29, u30, u31, u32, u33, u34, u35, u36, u37, u38, u39, u40, u41, u42, u43, u44, u45, u46, u47, u48, u49, u50, u51, u52, u53, u54, u55, u56, u57, u58, u59, u60, u61, u62, u63, u64, u65, u66, u67, u68, u69, u70, u71, u72, u73, u74, v75, v76, v77, v78, v79, v80, v81, v82, v83, v84, v85, v86, v87, v88, v89, v90, v91, v92, v93, v94, v95, u96], []⟩ (W.setCell ⟨p, 1, none⟩ v3)) :
    Code.wp Tryz.prog mreg8C K ⟨#[.pointer (some ⟨p, 0, none⟩), u1, u2, u3, u4, .int .i64 i, .pointer (some ⟨q, 0, none⟩), u7, u8, u9, u10, u11, u12, u13, u14, u15, u16, u17, u18, u19, u20, u21, u22, u23, u24, u25, u26, u27, u28, u29, u30, u31, u32, u33, u34, u35, u36, u37, u38, u39, u40, u41, u42, u43, u44, u45, u46, u47, u48, u49, u50, u51, u52, u53, u54, u55, u56, u57, u58, u59, u60, u61, u62, u63, u64, u65, u66, u67, u68, u69, u70, u71, u72, u73, u74, u75, u76, u77, u78, u79, u80, u81, u82, u83, u84, u85, u86, u87, u88, u89, u90, u91, u92, u93, u94, u95, u96], []⟩ w := by
  have HS := Lib.hid hS
  have HF := Lib.hid hF
  have HR1 := Lib.hid hr1
  have HR2 := Lib.hid hr2
  have H1 := Lib.hid h1
  have H2 := Lib.hid h2
  have HI := Lib.hid info78
  have HN3 := Lib.hid hN3
  clear hS hF hr1 hr2 h1 h2 hN3
  conv => arg 2; whnf
  dsimp only at hK ⊢
  refine wp_region_noPanic ?_
  refine wp_region_last (S := fun W => W.cell? ⟨p, 1, none⟩ = some (.slice A n c)) 21 (by kernel_rfl) (HS.out _ ((Keeps.refl [] w).drew)) (fun hHeld => ?_)
  obtain ⟨w0, hw0⟩ : ∃ w0, w.drew = w0 := ⟨_, rfl⟩
  rw [hw0] at hHeld ⊢
  have K0 : Keeps [] w w0 := by rw [← hw0]; exact (Keeps.refl [] w).drew
  clear hw0
  refine wpG_take (nx := [19, 8, 3, 4, 5, 7, 7, 8, 11, 10, 11, 18, 13, 14, 15, 17, 17, 18, 19, 20, 21]) (i := 0) (oi := ⟨some 75, Op.move (Operand.tmp 0), 26, _, _, none⟩) (v := ?vq139) (by kernel_rfl) rfl (by decide) (by kernel_rfl) (by kernel_rfl) (by kernel_rfl) (fun _ _ _ h => h) (Or.inl ⟨by rfl, fun W hW => ?_⟩) (by assumption) ?_
  rotate_left
  · go_simp
    with_reducible rfl
  try simp only [Act.put, List.setIfInBounds_toArray, List.set_cons_zero, List.set_cons_succ]
  refine wpG_take (nx := [19, 8, 3, 4, 5, 7, 7, 8, 11, 10, 11, 18, 13, 14, 15, 17, 17, 18, 19, 20, 21]) (i := 2) (oi := ⟨some 77, Op.move (Operand.tmp 0), 26, _, _, none⟩) (v := ?vq140) (by kernel_rfl) rfl (by decide) (by kernel_rfl) (by kernel_rfl) (by kernel_rfl) (fun _ _ _ h => h) (Or.inl ⟨by rfl, fun W hW => ?_⟩) (by assumption) ?_
  rotate_left
  · go_simp
    with_reducible rfl
  try simp only [Act.put, List.setIfInBounds_toArray, List.set_cons_zero, List.set_cons_succ]
  refine wpG_take (nx := [19, 8, 3, 4, 5, 7, 7, 8, 11, 10, 11, 18, 13, 14, 15, 17, 17, 18, 19, 20, 21]) (i := 3) (oi := ⟨some 78, Op.nilCheck (Operand.tmp 77), 0, _, _, none⟩) (v := ?vq141) (by kernel_rfl) rfl (by decide) (by kernel_rfl) (by kernel_rfl) (by kernel_rfl) (fun _ _ _ h => h) (Or.inl ⟨by rfl, fun W hW => ?_⟩) (by assumption) ?_
  rotate_left
  · go_simp
    with_reducible rfl
  try simp only [Act.put, List.setIfInBounds_toArray, List.set_cons_zero, List.set_cons_succ]
  refine wpG_take (nx := [19, 8, 3, 4, 5, 7, 7, 8, 11, 10, 11, 18, 13, 14, 15, 17, 17, 18, 19, 20, 21]) (i := 4) (oi := ⟨some 79, Op.fieldAddr 39 (Operand.tmp 78) 1, 0, _, _, none⟩) (v := ?vq142) (by kernel_rfl) rfl (by decide) (by kernel_rfl) (by kernel_rfl) (by kernel_rfl) (fun _ _ _ h => h) (Or.inl ⟨by rfl, fun W hW => ?_⟩) (by assumption) ?_
  rotate_left
  · go_simp
    with_reducible rfl
  try simp only [Act.put, List.setIfInBounds_toArray, List.set_cons_zero, List.set_cons_succ]
  refine wpG_take (nx := [19, 8, 3, 4, 5, 7, 7, 8, 11, 10, 11, 18, 13, 14, 15, 17, 17, 18, 19, 20, 21]) (i := 5) (oi := ⟨some 80, Op.load 36 (Operand.tmp 79), 36, _, _, none⟩) (v := .slice A n c) (by kernel_rfl) rfl (by decide) (by kernel_rfl) (by kernel_rfl) (by kernel_rfl) (fun _ _ _ h => h) (Or.inl ⟨by rfl, fun W hW => ?_⟩) (by assumption) ?_
  · go_simp
  try simp only [Act.put, List.setIfInBounds_toArray, List.set_cons_zero, List.set_cons_succ]
  refine wpG_take (nx := [19, 8, 3, 4, 5, 7, 7, 8, 11, 10, 11, 18, 13, 14, 15, 17, 17, 18, 19, 20, 21]) (i := 6) (oi := ⟨some 81, Op.move (Operand.tmp 5), 3, _, _, none⟩) (v := ?vq143) (by kernel_rfl) rfl (by decide) (by kernel_rfl) (by kernel_rfl) (by kernel_rfl) (fun _ _ _ h => h) (Or.inl ⟨by rfl, fun W hW => ?_⟩) (by assumption) ?_
  rotate_left
  · go_simp
    with_reducible rfl
  try simp only [Act.put, List.setIfInBounds_toArray, List.set_cons_zero, List.set_cons_succ]
  refine wpG_take (nx := [19, 8, 3, 4, 5, 7, 7, 8, 11, 10, 11, 18, 13, 14, 15, 17, 17, 18, 19, 20, 21]) (i := 7) (oi := ⟨some 82, Op.slice 36 (Operand.tmp 80) none (some (Operand.tmp 81)) none, 36, _, _, none⟩) (v := .slice A i c) (by kernel_rfl) rfl (by decide) (by kernel_rfl) (by kernel_rfl) (by kernel_rfl) (fun _ _ _ h => h) (Or.inl ⟨by rfl, fun W hW => ?_⟩) (by assumption) ?_
  · go_simp
  try simp only [Act.put, List.setIfInBounds_toArray, List.set_cons_zero, List.set_cons_succ]
  refine wpG_take (nx := [19, 8, 3, 4, 5, 7, 7, 8, 11, 10, 11, 18, 13, 14, 15, 17, 17, 18, 19, 20, 21]) (i := 9) (oi := ⟨some 84, Op.move (Operand.tmp 6), 78, _, _, none⟩) (v := ?vq144) (by kernel_rfl) rfl (by decide) (by kernel_rfl) (by kernel_rfl) (by kernel_rfl) (fun _ _ _ h => h) (Or.inl ⟨by rfl, fun W hW => ?_⟩) (by assumption) ?_
  rotate_left
  · go_simp
    with_reducible rfl
  try simp only [Act.put, List.setIfInBounds_toArray, List.set_cons_zero, List.set_cons_succ]
  refine wpG_take (nx := [19, 8, 3, 4, 5, 7, 7, 8, 11, 10, 11, 18, 13, 14, 15, 17, 17, 18, 19, 20, 21]) (i := 12) (oi := ⟨some 87, Op.move (Operand.tmp 0), 26, _, _, none⟩) (v := ?vq145) (by kernel_rfl) rfl (by decide) (by kernel_rfl) (by kernel_rfl) (by kernel_rfl) (fun _ _ _ h => h) (Or.inl ⟨by rfl, fun W hW => ?_⟩) (by assumption) ?_
  rotate_left
  · go_simp
    with_reducible rfl
  try simp only [Act.put, List.setIfInBounds_toArray, List.set_cons_zero, List.set_cons_succ]
  refine wpG_take (nx := [19, 8, 3, 4, 5, 7, 7, 8, 11, 10, 11, 18, 13, 14, 15, 17, 17, 18, 19, 20, 21]) (i := 13) (oi := ⟨some 88, Op.nilCheck (Operand.tmp 87), 0, _, _, none⟩) (v := ?vq146) (by kernel_rfl) rfl (by decide) (by kernel_rfl) (by kernel_rfl) (by kernel_rfl) (fun _ _ _ h => h) (Or.inl ⟨by rfl, fun W hW => ?_⟩) (by assumption) ?_
  rotate_left
  · go_simp
    with_reducible rfl
  try simp only [Act.put, List.setIfInBounds_toArray, List.set_cons_zero, List.set_cons_succ]
  refine wpG_take (nx := [19, 8, 3, 4, 5, 7, 7, 8, 11, 10, 11, 18, 13, 14, 15, 17, 17, 18, 19, 20, 21]) (i := 14) (oi := ⟨some 89, Op.fieldAddr 39 (Operand.tmp 88) 1, 0, _, _, none⟩) (v := ?vq147) (by kernel_rfl) rfl (by decide) (by kernel_rfl) (by kernel_rfl) (by kernel_rfl) (fun _ _ _ h => h) (Or.inl ⟨by rfl, fun W hW => ?_⟩) (by assumption) ?_
  rotate_left
  · go_simp
    with_reducible rfl
  try simp only [Act.put, List.setIfInBounds_toArray, List.set_cons_zero, List.set_cons_succ]
  refine wpG_take (nx := [19, 8, 3, 4, 5, 7, 7, 8, 11, 10, 11, 18, 13, 14, 15, 17, 17, 18, 19, 20, 21]) (i := 15) (oi := ⟨some 90, Op.load 36 (Operand.tmp 89), 36, _, _, none⟩) (v := .slice A n c) (by kernel_rfl) rfl (by decide) (by kernel_rfl) (by kernel_rfl) (by kernel_rfl) (fun _ _ _ h => h) (Or.inl ⟨by rfl, fun W hW => ?_⟩) (by assumption) ?_
  · go_simp
  try simp only [Act.put, List.setIfInBounds_toArray, List.set_cons_zero, List.set_cons_succ]
  refine wpG_take (nx := [19, 8, 3, 4, 5, 7, 7, 8, 11, 10, 11, 18, 13, 14, 15, 17, 17, 18, 19, 20, 21]) (i := 16) (oi := ⟨some 91, Op.move (Operand.tmp 5), 3, _, _, none⟩) (v := ?vq148) (by kernel_rfl) rfl (by decide) (by kernel_rfl) (by kernel_rfl) (by kernel_rfl) (fun _ _ _ h => h) (Or.inl ⟨by rfl, fun W hW => ?_⟩) (by assumption) ?_
  rotate_left
  · go_simp
    with_reducible rfl
  try simp only [Act.put, List.setIfInBounds_toArray, List.set_cons_zero, List.set_cons_succ]
  refine wpG_take (nx := [19, 8, 3, 4, 5, 7, 7, 8, 11, 10, 11, 18, 13, 14, 15, 17, 17, 18, 19, 20, 21]) (i := 17) (oi := ⟨some 92, Op.slice 36 (Operand.tmp 90) (some (Operand.tmp 91)) none none, 36, _, _, none⟩) (v := .slice B (n - i) (c - i)) (by kernel_rfl) rfl (by decide) (by kernel_rfl) (by kernel_rfl) (by kernel_rfl) (fun _ _ _ h => h) (Or.inl ⟨by rfl, fun W hW => ?_⟩) (by assumption) ?_
  · go_simp
  try simp only [Act.put, List.setIfInBounds_toArray, List.set_cons_zero, List.set_cons_succ]
  refine wpG_ready (rs := [1, 10]) (by kernel_rfl) (by simp) ?_
  refine AllG.cons (o := ⟨some 76, Op.buildSlice 36 0 #[], 36, _, _, none⟩) rfl (fun KK hKK => ?_) (AllG.cons (o := ⟨some 85, Op.buildSlice 36 1 #[(0, Operand.tmp 84)], 36, _, _, none⟩) rfl (fun KK hKK => ?_) AllG.nil)
  · go_simp
    obtain ⟨b150, f154⟩ : ∃ b, w0.heap.size = b := ⟨_, rfl⟩
    rw [f154]
    obtain ⟨W149, e153⟩ : ∃ W, World.alloc w0 (.cells #[] 78) = W := ⟨_, rfl⟩
    rw [e153]
    have kk151 : Keeps [] w0 W149 := by rw [← e153]; exact (Keeps.refl [] _).alloc _
    have K152 : Keeps [] w W149 := K0.trans kk151 (by simp)
    have oa155 : W149.ownsRow 0 78 1 (.slice (some ⟨b150, 0, none⟩) 0 0) 0 ([] : List Value) := by rw [← e153, ← f154]; exact own_of_blk (Blk.new _ 78 #[]) (by omega) (by omega) rfl rfl
    have g156 : w.heap.size ≤ b150 := by have := K0.size; omega
    refine hKK.out _ _ (HS.out _ K152) (fun hHeld => ?_)
    clear hKK KK e153 f154
    try simp only [Act.put, List.setIfInBounds_toArray, List.set_cons_zero, List.set_cons_succ]
    refine wpG_ready (rs := [8, 10]) (by kernel_rfl) (by simp) ?_
    refine AllG.cons (o := ⟨some 83, Op.call { callee := Callee.builtin Builtin.append, args := #[Operand.tmp 76, Operand.tmp 82], argTypes := #[36, 36] }, 36, _, _, none⟩) rfl (fun KK hKK => ?_) (AllG.cons (o := ⟨some 85, Op.buildSlice 36 1 #[(0, Operand.tmp 84)], 36, _, _, none⟩) rfl (fun KK hKK => ?_) AllG.nil)
    · refine step_app (by rfl) (.tmp 76) (.tmp 82) 36 (by rfl) 78 (.pointer none) 1 8 Tryz.underlying36 HI.out rfl (by omega) (.slice (some ⟨b150, 0, none⟩) 0 0) 0 (([] : List Value)) ?_ oa155 _ A i c xs1 ?_ (HR1.out _ K152) H1.out (by unfold maxLen; omega) (by omega) (fun v158 W157 oa159 kk160 f161 => ?_)
      · first | (simp [Act.eval]; done) | (simp [Act.eval, Act.put]; done)
      · first | (simp [Act.eval]; done) | (simp [Act.eval, Act.put]; done)
      have ge163 : ∀ g ∈ fp (.slice (some ⟨b150, 0, none⟩) 0 0), w.heap.size ≤ g := fun g hg => by have h0 : g = b150 := (by simpa [fp, Value.ownBlock] using hg); omega
      have K162 : Keeps [] w W157 := K152.trans kk160 (fun g hg => .inr (ge163 g hg))
      have g164 : ∀ g ∈ fp v158, w.heap.size ≤ g := fun g hg => (f161 g hg).elim (ge163 g) (fun h => by have := K152.size; omega)
      refine hKK.out _ _ (HS.out _ K162) (fun hHeld => ?_)
      clear hKK KK
      try simp only [Act.put, List.setIfInBounds_toArray, List.set_cons_zero, List.set_cons_succ]
      refine wpG_ready (rs := [10]) (by kernel_rfl) (by simp) ?_
      refine AllG.cons (o := ⟨some 85, Op.buildSlice 36 1 #[(0, Operand.tmp 84)], 36, _, _, none⟩) rfl (fun KK hKK => ?_) AllG.nil
      go_simp
      obtain ⟨b166, f170⟩ : ∃ b, W157.heap.size = b := ⟨_, rfl⟩
      rw [f170]
      obtain ⟨W165, e169⟩ : ∃ W, World.alloc W157 (.cells #[.pointer (some ⟨q, 0, none⟩)] 78) = W := ⟨_, rfl⟩
      rw [e169]
      have kk167 : Keeps [] W157 W165 := by rw [← e169]; exact (Keeps.refl [] _).alloc _
      have K168 : Keeps [] w W165 := K162.trans kk167 (by simp)
      have oa171 : W165.ownsRow 0 78 1 v158 (0 + i) (([] : List Value) ++ xs1) := own_keep oa159 kk167 (by simp)
      have bx172 : Blk W165 b166 78 #[.pointer (some ⟨q, 0, none⟩)] := by rw [← e169, ← f170]; exact Blk.new _ _ _
      refine hKK.out _ _ (HS.out _ K168) (fun hHeld => ?_)
      clear hKK KK e169 f170
      try simp only [Act.put, List.setIfInBounds_toArray, List.set_cons_zero, List.set_cons_succ]
      refine wpG_ready (rs := [11]) (by kernel_rfl) (by simp) ?_
      refine AllG.cons (o := ⟨some 86, Op.call { callee := Callee.builtin Builtin.append, args := #[Operand.tmp 83, Operand.tmp 85], argTypes := #[36, 36] }, 36, _, _, none⟩) rfl (fun KK hKK => ?_) AllG.nil
      refine step_app (by rfl) (.tmp 83) (.tmp 85) 36 (by rfl) 78 (.pointer none) 1 8 Tryz.underlying36 HI.out rfl (by omega) v158 (0 + i) (([] : List Value) ++ xs1) ?_ oa171 _ (some ⟨b166, 0, none⟩) 1 1 [.pointer (some ⟨q, 0, none⟩)] ?_ (reads_cells_of bx172 rfl) (by simp [Value.oneCell']) (by unfold maxLen; omega) (by omega) (fun v174 W173 oa175 kk176 f177 => ?_)
      · first | (simp [Act.eval]; done) | (simp [Act.eval, Act.put]; done)
      · first | (simp [Act.eval]; done) | (simp [Act.eval, Act.put]; done)
      have ge179 : ∀ g ∈ fp v158, w.heap.size ≤ g := g164
      have K178 : Keeps [] w W173 := K168.trans kk176 (fun g hg => .inr (ge179 g hg))
      have g180 : ∀ g ∈ fp v174, w.heap.size ≤ g := fun g hg => (f177 g hg).elim (ge179 g) (fun h => by have := K168.size; omega)
      refine hKK.out _ _ (HS.out _ K178) (fun hHeld => ?_)
      clear hKK KK
      try simp only [Act.put, List.setIfInBounds_toArray, List.set_cons_zero, List.set_cons_succ]
      refine wpG_ready (rs := [18]) (by kernel_rfl) (by simp) ?_
      refine AllG.cons (o := ⟨some 93, Op.call { callee := Callee.builtin Builtin.append, args := #[Operand.tmp 86, Operand.tmp 92], argTypes := #[36, 36] }, 36, _, _, none⟩) rfl (fun KK hKK => ?_) AllG.nil
      refine step_app (by rfl) (.tmp 86) (.tmp 92) 36 (by rfl) 78 (.pointer none) 1 8 Tryz.underlying36 HI.out rfl (by omega) v174 ((0 + i) + 1) ((([] : List Value) ++ xs1) ++ [.pointer (some ⟨q, 0, none⟩)]) ?_ oa175 _ B (n - i) (c - i) xs2 ?_ (HR2.out _ K178) H2.out (by unfold maxLen; omega) (by omega) (fun v182 W181 oa183 kk184 f185 => ?_)
      · first | (simp [Act.eval]; done) | (simp [Act.eval, Act.put]; done)
      · first | (simp [Act.eval]; done) | (simp [Act.eval, Act.put]; done)
      have ge187 : ∀ g ∈ fp v174, w.heap.size ≤ g := g180
      have K186 : Keeps [] w W181 := K178.trans kk184 (fun g hg => .inr (ge187 g hg))
      have g188 : ∀ g ∈ fp v182, w.heap.size ≤ g := fun g hg => (f185 g hg).elim (ge187 g) (fun h => by have := K178.size; omega)
      rw [HN3.out] at oa183
      obtain ⟨A189, c190, rfl, -, -, -⟩ := own_shape oa183
      refine hKK.out _ _ (HS.out _ K186) (fun hHeld => ?_)
      clear hKK KK
      try simp only [Act.put, List.setIfInBounds_toArray, List.set_cons_zero, List.set_cons_succ]
      refine wpG_take (nx := [19, 8, 3, 4, 5, 7, 7, 8, 11, 10, 11, 18, 13, 14, 15, 17, 17, 18, 19, 20, 21]) (i := 19) (oi := ⟨some 94, Op.nilCheck (Operand.tmp 75), 0, _, _, none⟩) (v := ?vq191) (by kernel_rfl) rfl (by decide) (by kernel_rfl) (by kernel_rfl) (by kernel_rfl) (fun _ _ _ h => h) (Or.inl ⟨by rfl, fun W hW => ?_⟩) (by assumption) ?_
      rotate_left
      · go_simp
        with_reducible rfl
      try simp only [Act.put, List.setIfInBounds_toArray, List.set_cons_zero, List.set_cons_succ]
      refine wpG_take (nx := [19, 8, 3, 4, 5, 7, 7, 8, 11, 10, 11, 18, 13, 14, 15, 17, 17, 18, 19, 20, 21]) (i := 20) (oi := ⟨some 95, Op.fieldAddr 39 (Operand.tmp 94) 1, 0, _, _, none⟩) (v := ?vq192) (by kernel_rfl) rfl (by decide) (by kernel_rfl) (by kernel_rfl) (by kernel_rfl) (fun _ _ _ h => h) (Or.inl ⟨by rfl, fun W hW => ?_⟩) (by assumption) ?_
      rotate_left
      · go_simp
        with_reducible rfl
      try simp only [Act.put, List.setIfInBounds_toArray, List.set_cons_zero, List.set_cons_succ]
      refine wpG_ready (rs := [21]) (by kernel_rfl) (by simp) ?_
      refine AllG.last (o := ⟨none, Op.store 36 (Operand.tmp 95) (Operand.tmp 93), 0, _, _, none⟩) rfl (fun KK hKK => ?_)
      have hc0 := HS.out _ K186
      have hf0 := HF.out _ K186
      go_simp
      refine hKK.out _ _ ?_
      clear hKK KK hHeld
      try simp only [Act.put, List.setIfInBounds_toArray, List.set_cons_zero, List.set_cons_succ]
      refine wpG_done (by kernel_rfl) ?_ _
      refine NoPanic.normal ?_
      exact hK _ _ _ _ _ _ _ _ _ _ _ _ _ _ _ _ _ _ _ _ _ (.slice A189 N3 c190) W181 oa183 K186 g188
    · go_simp
      obtain ⟨b194, f198⟩ : ∃ b, W149.heap.size = b := ⟨_, rfl⟩
      rw [f198]
      obtain ⟨W193, e197⟩ : ∃ W, World.alloc W149 (.cells #[.pointer (some ⟨q, 0, none⟩)] 78) = W := ⟨_, rfl⟩
      rw [e197]
      have kk195 : Keeps [] W149 W193 := by rw [← e197]; exact (Keeps.refl [] _).alloc _
      have K196 : Keeps [] w W193 := K152.trans kk195 (by simp)
      have oa199 : W193.ownsRow 0 78 1 (.slice (some ⟨b150, 0, none⟩) 0 0) 0 (([] : List Value)) := own_keep oa155 kk195 (by simp)
      have bx200 : Blk W193 b194 78 #[.pointer (some ⟨q, 0, none⟩)] := by rw [← e197, ← f198]; exact Blk.new _ _ _
      have ne201 : b194 ≠ b150 := by have := own_lt oa155 (g := b150) (by simp [fp, Value.ownBlock]); omega
      refine hKK.out _ _ (HS.out _ K196) (fun hHeld => ?_)
      clear hKK KK e197 f198
      try simp only [Act.put, List.setIfInBounds_toArray, List.set_cons_zero, List.set_cons_succ]
      refine wpG_ready (rs := [8]) (by kernel_rfl) (by simp) ?_
      refine AllG.cons (o := ⟨some 83, Op.call { callee := Callee.builtin Builtin.append, args := #[Operand.tmp 76, Operand.tmp 82], argTypes := #[36, 36] }, 36, _, _, none⟩) rfl (fun KK hKK => ?_) AllG.nil
      refine step_app (by rfl) (.tmp 76) (.tmp 82) 36 (by rfl) 78 (.pointer none) 1 8 Tryz.underlying36 HI.out rfl (by omega) (.slice (some ⟨b150, 0, none⟩) 0 0) 0 (([] : List Value)) ?_ oa199 _ A i c xs1 ?_ (HR1.out _ K196) H1.out (by unfold maxLen; omega) (by omega) (fun v203 W202 oa204 kk205 f206 => ?_)
      · first | (simp [Act.eval]; done) | (simp [Act.eval, Act.put]; done)
      · first | (simp [Act.eval]; done) | (simp [Act.eval, Act.put]; done)
      have ge208 : ∀ g ∈ fp (.slice (some ⟨b150, 0, none⟩) 0 0), w.heap.size ≤ g := fun g hg => by have h0 : g = b150 := (by simpa [fp, Value.ownBlock] using hg); omega
      have K207 : Keeps [] w W202 := K196.trans kk205 (fun g hg => .inr (ge208 g hg))
      have bx209 : Blk W202 b194 78 #[.pointer (some ⟨q, 0, none⟩)] := bx200.keep kk205 (fun h0 => ne201 (by simpa [fp, Value.ownBlock] using h0))
      have g210 : ∀ g ∈ fp v203, w.heap.size ≤ g := fun g hg => (f206 g hg).elim (ge208 g) (fun h => by have := K196.size; omega)
      refine hKK.out _ _ (HS.out _ K207) (fun hHeld => ?_)
      clear hKK KK
      try simp only [Act.put, List.setIfInBounds_toArray, List.set_cons_zero, List.set_cons_succ]
      refine wpG_ready (rs := [11]) (by kernel_rfl) (by simp) ?_
      refine AllG.cons (o := ⟨some 86, Op.call { callee := Callee.builtin Builtin.append, args := #[Operand.tmp 83, Operand.tmp 85], argTypes := #[36, 36] }, 36, _, _, none⟩) rfl (fun KK hKK => ?_) AllG.nil
      refine step_app (by rfl) (.tmp 83) (.tmp 85) 36 (by rfl) 78 (.pointer none) 1 8 Tryz.underlying36 HI.out rfl (by omega) v203 (0 + i) (([] : List Value) ++ xs1) ?_ oa204 _ (some ⟨b194, 0, none⟩) 1 1 [.pointer (some ⟨q, 0, none⟩)] ?_ (reads_cells_of bx209 rfl) (by simp [Value.oneCell']) (by unfold maxLen; omega) (by omega) (fun v212 W211 oa213 kk214 f215 => ?_)
      · first | (simp [Act.eval]; done) | (simp [Act.eval, Act.put]; done)
      · first | (simp [Act.eval]; done) | (simp [Act.eval, Act.put]; done)
      have ge217 : ∀ g ∈ fp v203, w.heap.size ≤ g := g210
      have K216 : Keeps [] w W211 := K207.trans kk214 (fun g hg => .inr (ge217 g hg))
      have g218 : ∀ g ∈ fp v212, w.heap.size ≤ g := fun g hg => (f215 g hg).elim (ge217 g) (fun h => by have := K207.size; omega)
      refine hKK.out _ _ (HS.out _ K216) (fun hHeld => ?_)
      clear hKK KK
      try simp only [Act.put, List.setIfInBounds_toArray, List.set_cons_zero, List.set_cons_succ]
      refine wpG_ready (rs := [18]) (by kernel_rfl) (by simp) ?_
      refine AllG.cons (o := ⟨some 93, Op.call { callee := Callee.builtin Builtin.append, args := #[Operand.tmp 86, Operand.tmp 92], argTypes := #[36, 36] }, 36, _, _, none⟩) rfl (fun KK hKK => ?_) AllG.nil
      refine step_app (by rfl) (.tmp 86) (.tmp 92) 36 (by rfl) 78 (.pointer none) 1 8 Tryz.underlying36 HI.out rfl (by omega) v212 ((0 + i) + 1) ((([] : List Value) ++ xs1) ++ [.pointer (some ⟨q, 0, none⟩)]) ?_ oa213 _ B (n - i) (c - i) xs2 ?_ (HR2.out _ K216) H2.out (by unfold maxLen; omega) (by omega) (fun v220 W219 oa221 kk222 f223 => ?_)
      · first | (simp [Act.eval]; done) | (simp [Act.eval, Act.put]; done)
      · first | (simp [Act.eval]; done) | (simp [Act.eval, Act.put]; done)
      have ge225 : ∀ g ∈ fp v212, w.heap.size ≤ g := g218
      have K224 : Keeps [] w W219 := K216.trans kk222 (fun g hg => .inr (ge225 g hg))
      have g226 : ∀ g ∈ fp v220, w.heap.size ≤ g := fun g hg => (f223 g hg).elim (ge225 g) (fun h => by have := K216.size; omega)
      rw [HN3.out] at oa221
      obtain ⟨A227, c228, rfl, -, -, -⟩ := own_shape oa221
      refine hKK.out _ _ (HS.out _ K224) (fun hHeld => ?_)
      clear hKK KK
      try simp only [Act.put, List.setIfInBounds_toArray, List.set_cons_zero, List.set_cons_succ]
      refine wpG_take (nx := [19, 8, 3, 4, 5, 7, 7, 8, 11, 10, 11, 18, 13, 14, 15, 17, 17, 18, 19, 20, 21]) (i := 19) (oi := ⟨some 94, Op.nilCheck (Operand.tmp 75), 0, _, _, none⟩) (v := ?vq229) (by kernel_rfl) rfl (by decide) (by kernel_rfl) (by kernel_rfl) (by kernel_rfl) (fun _ _ _ h => h) (Or.inl ⟨by rfl, fun W hW => ?_⟩) (by assumption) ?_
      rotate_left
      · go_simp
        with_reducible rfl
      try simp only [Act.put, List.setIfInBounds_toArray, List.set_cons_zero, List.set_cons_succ]
      refine wpG_take (nx := [19, 8, 3, 4, 5, 7, 7, 8, 11, 10, 11, 18, 13, 14, 15, 17, 17, 18, 19, 20, 21]) (i := 20) (oi := ⟨some 95, Op.fieldAddr 39 (Operand.tmp 94) 1, 0, _, _, none⟩) (v := ?vq230) (by kernel_rfl) rfl (by decide) (by kernel_rfl) (by kernel_rfl) (by kernel_rfl) (fun _ _ _ h => h) (Or.inl ⟨by rfl, fun W hW => ?_⟩) (by assumption) ?_
      rotate_left
      · go_simp
        with_reducible rfl
      try simp only [Act.put, List.setIfInBounds_toArray, List.set_cons_zero, List.set_cons_succ]
      refine wpG_ready (rs := [21]) (by kernel_rfl) (by simp) ?_
      refine AllG.last (o := ⟨none, Op.store 36 (Operand.tmp 95) (Operand.tmp 93), 0, _, _, none⟩) rfl (fun KK hKK => ?_)
      have hc0 := HS.out _ K224
      have hf0 := HF.out _ K224
      go_simp
      refine hKK.out _ _ ?_
      clear hKK KK hHeld
      try simp only [Act.put, List.setIfInBounds_toArray, List.set_cons_zero, List.set_cons_succ]
      refine wpG_done (by kernel_rfl) ?_ _
      refine NoPanic.normal ?_
      exact hK _ _ _ _ _ _ _ _ _ _ _ _ _ _ _ _ _ _ _ _ _ (.slice A227 N3 c228) W219 oa221 K224 g226
  · go_simp
    obtain ⟨b232, f236⟩ : ∃ b, w0.heap.size = b := ⟨_, rfl⟩
    rw [f236]
    obtain ⟨W231, e235⟩ : ∃ W, World.alloc w0 (.cells #[.pointer (some ⟨q, 0, none⟩)] 78) = W := ⟨_, rfl⟩
    rw [e235]
    have kk233 : Keeps [] w0 W231 := by rw [← e235]; exact (Keeps.refl [] _).alloc _
    have K234 : Keeps [] w W231 := K0.trans kk233 (by simp)
    have bx237 : Blk W231 b232 78 #[.pointer (some ⟨q, 0, none⟩)] := by rw [← e235, ← f236]; exact Blk.new _ _ _
    refine hKK.out _ _ (HS.out _ K234) (fun hHeld => ?_)
    clear hKK KK e235 f236
    try simp only [Act.put, List.setIfInBounds_toArray, List.set_cons_zero, List.set_cons_succ]
    refine wpG_ready (rs := [1]) (by kernel_rfl) (by simp) ?_
    refine AllG.cons (o := ⟨some 76, Op.buildSlice 36 0 #[], 36, _, _, none⟩) rfl (fun KK hKK => ?_) AllG.nil
    go_simp
    obtain ⟨b239, f243⟩ : ∃ b, W231.heap.size = b := ⟨_, rfl⟩
    rw [f243]
    obtain ⟨W238, e242⟩ : ∃ W, World.alloc W231 (.cells #[] 78) = W := ⟨_, rfl⟩
    rw [e242]
    have kk240 : Keeps [] W231 W238 := by rw [← e242]; exact (Keeps.refl [] _).alloc _
    have K241 : Keeps [] w W238 := K234.trans kk240 (by simp)
    have bx244 : Blk W238 b232 78 #[.pointer (some ⟨q, 0, none⟩)] := bx237.keep kk240 (by simp)
    have oa245 : W238.ownsRow 0 78 1 (.slice (some ⟨b239, 0, none⟩) 0 0) 0 ([] : List Value) := by rw [← e242, ← f243]; exact own_of_blk (Blk.new _ 78 #[]) (by omega) (by omega) rfl rfl
    have g246 : w.heap.size ≤ b239 := by have := K234.size; omega
    have ne247 : b232 ≠ b239 := by have := bx237.lt; omega
    refine hKK.out _ _ (HS.out _ K241) (fun hHeld => ?_)
    clear hKK KK e242 f243
    try simp only [Act.put, List.setIfInBounds_toArray, List.set_cons_zero, List.set_cons_succ]
    refine wpG_ready (rs := [8]) (by kernel_rfl) (by simp) ?_
    refine AllG.cons (o := ⟨some 83, Op.call { callee := Callee.builtin Builtin.append, args := #[Operand.tmp 76, Operand.tmp 82], argTypes := #[36, 36] }, 36, _, _, none⟩) rfl (fun KK hKK => ?_) AllG.nil
    refine step_app (by rfl) (.tmp 76) (.tmp 82) 36 (by rfl) 78 (.pointer none) 1 8 Tryz.underlying36 HI.out rfl (by omega) (.slice (some ⟨b239, 0, none⟩) 0 0) 0 (([] : List Value)) ?_ oa245 _ A i c xs1 ?_ (HR1.out _ K241) H1.out (by unfold maxLen; omega) (by omega) (fun v249 W248 oa250 kk251 f252 => ?_)
    · first | (simp [Act.eval]; done) | (simp [Act.eval, Act.put]; done)
    · first | (simp [Act.eval]; done) | (simp [Act.eval, Act.put]; done)
    have ge254 : ∀ g ∈ fp (.slice (some ⟨b239, 0, none⟩) 0 0), w.heap.size ≤ g := fun g hg => by have h0 : g = b239 := (by simpa [fp, Value.ownBlock] using hg); omega
    have K253 : Keeps [] w W248 := K241.trans kk251 (fun g hg => .inr (ge254 g hg))
    have bx255 : Blk W248 b232 78 #[.pointer (some ⟨q, 0, none⟩)] := bx244.keep kk251 (fun h0 => ne247 (by simpa [fp, Value.ownBlock] using h0))
    have g256 : ∀ g ∈ fp v249, w.heap.size ≤ g := fun g hg => (f252 g hg).elim (ge254 g) (fun h => by have := K241.size; omega)
    refine hKK.out _ _ (HS.out _ K253) (fun hHeld => ?_)
    clear hKK KK
    try simp only [Act.put, List.setIfInBounds_toArray, List.set_cons_zero, List.set_cons_succ]
    refine wpG_ready (rs := [11]) (by kernel_rfl) (by simp) ?_
    refine AllG.cons (o := ⟨some 86, Op.call { callee := Callee.builtin Builtin.append, args := #[Operand.tmp 83, Operand.tmp 85], argTypes := #[36, 36] }, 36, _, _, none⟩) rfl (fun KK hKK => ?_) AllG.nil
    refine step_app (by rfl) (.tmp 83) (.tmp 85) 36 (by rfl) 78 (.pointer none) 1 8 Tryz.underlying36 HI.out rfl (by omega) v249 (0 + i) (([] : List Value) ++ xs1) ?_ oa250 _ (some ⟨b232, 0, none⟩) 1 1 [.pointer (some ⟨q, 0, none⟩)] ?_ (reads_cells_of bx255 rfl) (by simp [Value.oneCell']) (by unfold maxLen; omega) (by omega) (fun v258 W257 oa259 kk260 f261 => ?_)
    · first | (simp [Act.eval]; done) | (simp [Act.eval, Act.put]; done)
    · first | (simp [Act.eval]; done) | (simp [Act.eval, Act.put]; done)
    have ge263 : ∀ g ∈ fp v249, w.heap.size ≤ g := g256
    have K262 : Keeps [] w W257 := K253.trans kk260 (fun g hg => .inr (ge263 g hg))
    have g264 : ∀ g ∈ fp v258, w.heap.size ≤ g := fun g hg => (f261 g hg).elim (ge263 g) (fun h => by have := K253.size; omega)
    refine hKK.out _ _ (HS.out _ K262) (fun hHeld => ?_)
    clear hKK KK
    try simp only [Act.put, List.setIfInBounds_toArray, List.set_cons_zero, List.set_cons_succ]
    refine wpG_ready (rs := [18]) (by kernel_rfl) (by simp) ?_
    refine AllG.cons (o := ⟨some 93, Op.call { callee := Callee.builtin Builtin.append, args := #[Operand.tmp 86, Operand.tmp 92], argTypes := #[36, 36] }, 36, _, _, none⟩) rfl (fun KK hKK => ?_) AllG.nil
    refine step_app (by rfl) (.tmp 86) (.tmp 92) 36 (by rfl) 78 (.pointer none) 1 8 Tryz.underlying36 HI.out rfl (by omega) v258 ((0 + i) + 1) ((([] : List Value) ++ xs1) ++ [.pointer (some ⟨q, 0, none⟩)]) ?_ oa259 _ B (n - i) (c - i) xs2 ?_ (HR2.out _ K262) H2.out (by unfold maxLen; omega) (by omega) (fun v266 W265 oa267 kk268 f269 => ?_)
    · first | (simp [Act.eval]; done) | (simp [Act.eval, Act.put]; done)
    · first | (simp [Act.eval]; done) | (simp [Act.eval, Act.put]; done)
    have ge271 : ∀ g ∈ fp v258, w.heap.size ≤ g := g264
    have K270 : Keeps [] w W265 := K262.trans kk268 (fun g hg => .inr (ge271 g hg))
    have g272 : ∀ g ∈ fp v266, w.heap.size ≤ g := fun g hg => (f269 g hg).elim (ge271 g) (fun h => by have := K262.size; omega)
    rw [HN3.out] at oa267
    obtain ⟨A273, c274, rfl, -, -, -⟩ := own_shape oa267
    refine hKK.out _ _ (HS.out _ K270) (fun hHeld => ?_)
    clear hKK KK
    try simp only [Act.put, List.setIfInBounds_toArray, List.set_cons_zero, List.set_cons_succ]
    refine wpG_take (nx := [19, 8, 3, 4, 5, 7, 7, 8, 11, 10, 11, 18, 13, 14, 15, 17, 17, 18, 19, 20, 21]) (i := 19) (oi := ⟨some 94, Op.nilCheck (Operand.tmp 75), 0, _, _, none⟩) (v := ?vq275) (by kernel_rfl) rfl (by decide) (by kernel_rfl) (by kernel_rfl) (by kernel_rfl) (fun _ _ _ h => h) (Or.inl ⟨by rfl, fun W hW => ?_⟩) (by assumption) ?_
    rotate_left
    · go_simp
      with_reducible rfl
    try simp only [Act.put, List.setIfInBounds_toArray, List.set_cons_zero, List.set_cons_succ]
    refine wpG_take (nx := [19, 8, 3, 4, 5, 7, 7, 8, 11, 10, 11, 18, 13, 14, 15, 17, 17, 18, 19, 20, 21]) (i := 20) (oi := ⟨some 95, Op.fieldAddr 39 (Operand.tmp 94) 1, 0, _, _, none⟩) (v := ?vq276) (by kernel_rfl) rfl (by decide) (by kernel_rfl) (by kernel_rfl) (by kernel_rfl) (fun _ _ _ h => h) (Or.inl ⟨by rfl, fun W hW => ?_⟩) (by assumption) ?_
    rotate_left
    · go_simp
      with_reducible rfl
    try simp only [Act.put, List.setIfInBounds_toArray, List.set_cons_zero, List.set_cons_succ]
    refine wpG_ready (rs := [21]) (by kernel_rfl) (by simp) ?_
    refine AllG.last (o := ⟨none, Op.store 36 (Operand.tmp 95) (Operand.tmp 93), 0, _, _, none⟩) rfl (fun KK hKK => ?_)
    have hc0 := HS.out _ K270
    have hf0 := HF.out _ K270
    go_simp
    refine hKK.out _ _ ?_
    clear hKK KK hHeld
    try simp only [Act.put, List.setIfInBounds_toArray, List.set_cons_zero, List.set_cons_succ]
    refine wpG_done (by kernel_rfl) ?_ _
    refine NoPanic.normal ?_
    exact hK _ _ _ _ _ _ _ _ _ _ _ _ _ _ _ _ _ _ _ _ _ (.slice A273 N3 c274) W265 oa267 K270 g272
end Go.Proofs.YteognipfnbocpaaGreat
