/- The reference's drawn statements that make a row anew (printed by n2gen.py). -/
import Derived.Test.YtcopjjokhjealaaGreatN1
import Derived.Test.YtcopjjokhjealaaGreatHeld
namespace Go.Proofs.YtcopjjokhjealaaGreat
open Go.RowKit

/-- Blocks told apart. -/
theorem off_new {S : List Nat} {n : Nat} (h : ∀ g ∈ S, g < n) : ∀ g ∈ S, g ∉ [n] := fun g hg h0 => by have := h g hg; rw [List.mem_singleton.1 h0] at this; omega
theorem off_app {v v2 : Value} {S : List Nat} {n : Nat} (f : ∀ g ∈ fp v2, g ∈ fp v ∨ n ≤ g) (d : ∀ g ∈ fp v, g ∉ S) (l : ∀ g ∈ S, g < n) : ∀ g ∈ fp v2, g ∉ S := fun g hg h0 => (f g hg).elim (fun h => d g h h0) (fun h => by have := l g h0; omega)
theorem off_symm {S T : List Nat} (h : ∀ g ∈ S, g ∉ T) : ∀ g ∈ T, g ∉ S := fun g hg h0 => h g h0 hg
theorem Blk.lts {w : World} {g : Nat} {t : TypeId} {cs : Array Value} (h : Blk w g t cs) : ∀ x ∈ [g], x < w.heap.size := fun x hx => by rw [List.mem_singleton.1 hx]; exact h.lt
theorem own_lts {w : World} {e size n : Nat} {v : Value} {xs : List Value} (h : w.ownsRow 0 e size v n xs) : ∀ x ∈ fp v, x < w.heap.size := fun _ hx => own_lt h hx
theorem ges_app {v v2 : Value} {m n : Nat} (f : ∀ g ∈ fp v2, g ∈ fp v ∨ n ≤ g) (h : ∀ g ∈ fp v, m ≤ g) (hm : m ≤ n) : ∀ g ∈ fp v2, m ≤ g := fun g hg => (f g hg).elim (h g) (fun h' => Nat.le_trans hm h')
theorem reads_blk {w : World} {b : Nat} {t : TypeId} {cs : Array Value} {xs : List Value} {size : Nat} (h : Blk w b t cs) (hx : xs = cs.toList) (hn : cs.size = 1 * size) : Reads w w.heap.size size (some ⟨b, 0, none⟩) 1 xs := by
  subst hx
  refine ⟨by simp [hn], fun _ => ⟨_, rfl, h.lt, fun j u hu => ?_⟩⟩
  rw [add_of_plain, Nat.zero_add, h.cell]
  simpa using hu
noncomputable def rem2C : Code := ((Tryz.f58.body.bind (theRegion 2)).getD .skip)
set_option maxRecDepth 1000000 in
set_option maxHeartbeats 1600000 in
set_option linter.unusedSimpArgs false in
theorem rem2_any (w : World) (p : Nat) (n i j c m2 c2 N3 : Nat) (A B : Option Addr) (xs1 xs2 : List Value) (K : Exit → Act → World → Prop) (hi : i ≤ n) (hn : n ≤ 1000000) (hm2 : m2 ≤ n) (hN3 : 0 + i + m2 = N3)
    (hS : ∀ W, Keeps [] w W → W.cell? ⟨p, 1, none⟩ = some (.slice A n c)) (hF : ∀ W, Keeps [] w W → W.frozen? ⟨p, 1, none⟩ = false)
    (hs1 : ∀ W, (Instr.slice 58 (.slice A n c) none (some (.int .i64 i)) none).run Tryz.prog W = .ok (.slice A i c) W) (hs2 : ∀ W, (Instr.slice 58 (.slice A n c) (some (.int .i64 j)) none none).run Tryz.prog W = .ok (.slice B m2 c2) W)
    (hr1 : ∀ W, Keeps [] w W → Reads W W.heap.size 4 A i xs1) (hr2 : ∀ W, Keeps [] w W → Reads W W.heap.size 4 B m2 xs2) (h1 : ∀ u ∈ xs1, u.oneCell' = true) (h2 : ∀ u ∈ xs2, u.oneCell' = true)
    (hj : IntKind.i64.wrap ((i : Int) + 1) = (j : Int))
    (u2 u3 u4 u5 u6 u7 u8 u9 u10 u11 u12 u13 u14 u15 u16 u17 u18 u19 u20 u21 u22 u23 u24 u25 u26 u27 u28 u29 u30 u31 u32 u33 u34 u35 u36 u37 u38 u39 u40 u41 u42 u43 u44 u45 u46 u47 u48 u49 u50 u51 u52 u53 u54 u55 u56 u57 u58 u59 u60 u61 u62 u63 u64 u65 u66 u67 u68 u69 u70 u71 u72 u73 u74 u75 u76 u77 u78 u79 u80 u81 u82 u83 : Value)
    (hK : ∀ (v18 v19 v20 v21 v22 v23 v24 v25 v26 v27 v28 v29 v30 v31 v32 v33 v34 v35 v36 : Value) (v3 : Value) (W : World), W.ownsRow 0 69 4 v3 N3 ([] ++ xs1 ++ xs2) → Keeps [] w W → (∀ g ∈ fp v3, w.heap.size ≤ g) → K .normal ⟨#[.pointer (some ⟨p, 0, none⟩), .int .i64 i, u2, u3, u4, u5, u6, u7, u8, u9, u10, u11, u12, u13, u14, u15, u16, u17, v18, v19, v20, v21, v22, v23, v24, v25, v26, v27, v28, v29, v30, v31, v32, v33, v34, v35, v36, u37, u38, u39, u40, u41, u42, u43, u44, u45, u46, u47, u48, u49, u50, u51, u52, u53, u54, u55, u56, u57, u58, u59, u60, u61, u62, u63, u64, u65, u66, u67, u68, u69, u70, u71, u72, u73, u74, u75, u76, u77, u78, u79, u80, u81, u82, u83], []⟩ (W.setCell ⟨p, 1, none⟩ v3)) :
    Code.wp Tryz.prog rem2C K ⟨#[.pointer (some ⟨p, 0, none⟩), .int .i64 i, u2, u3, u4, u5, u6, u7, u8, u9, u10, u11, u12, u13, u14, u15, u16, u17, u18, u19, u20, u21, u22, u23, u24, u25, u26, u27, u28, u29, u30, u31, u32, u33, u34, u35, u36, u37, u38, u39, u40, u41, u42, u43, u44, u45, u46, u47, u48, u49, u50, u51, u52, u53, u54, u55, u56, u57, u58, u59, u60, u61, u62, u63, u64, u65, u66, u67, u68, u69, u70, u71, u72, u73, u74, u75, u76, u77, u78, u79, u80, u81, u82, u83], []⟩ w := by
  have HS := Lib.hid hS
  have HF := Lib.hid hF
  have HR1 := Lib.hid hr1
  have HR2 := Lib.hid hr2
  have H1 := Lib.hid h1
  have H2 := Lib.hid h2
  have HI := Lib.hid info69
  have HN3 := Lib.hid hN3
  have HJ := Lib.hid hj
  clear hj
  clear hS hF hr1 hr2 h1 h2 hN3
  conv => arg 2; whnf
  try dsimp only at hK ⊢
  refine wp_region_noPanic ?_
  refine wp_region_last (S := fun W => W.cell? ⟨p, 1, none⟩ = some (.slice A n c)) 19 (by kernel_rfl) (HS.out _ ((Keeps.refl [] w).drew)) (fun hHeld => ?_)
  obtain ⟨w0, hw0⟩ : ∃ w0, w.drew = w0 := ⟨_, rfl⟩
  try rw [hw0] at hHeld
  rw [hw0]
  have K0 : Keeps [] w w0 := by rw [← hw0]; exact (Keeps.refl [] w).drew
  clear hw0
  refine wpG_take (nx := [17, 8, 3, 4, 5, 7, 7, 8, 16, 10, 11, 12, 15, 14, 15, 16, 17, 18, 19]) (i := 0) (oi := ⟨some 18, Op.move (Operand.tmp 0), 28, _, _, none⟩) (v := ?vq1) (by kernel_rfl) rfl (by decide) (by kernel_rfl) (by kernel_rfl) (by kernel_rfl) (fun _ _ _ h => h) (Or.inl ⟨by rfl, fun W hW => ?_⟩) (by assumption) ?_
  rotate_left
  · go_simp
    with_reducible rfl
  try simp only [Act.put, List.setIfInBounds_toArray, List.set_cons_zero, List.set_cons_succ]
  refine wpG_take (nx := [17, 8, 3, 4, 5, 7, 7, 8, 16, 10, 11, 12, 15, 14, 15, 16, 17, 18, 19]) (i := 2) (oi := ⟨some 20, Op.move (Operand.tmp 0), 28, _, _, none⟩) (v := ?vq2) (by kernel_rfl) rfl (by decide) (by kernel_rfl) (by kernel_rfl) (by kernel_rfl) (fun _ _ _ h => h) (Or.inl ⟨by rfl, fun W hW => ?_⟩) (by assumption) ?_
  rotate_left
  · go_simp
    with_reducible rfl
  try simp only [Act.put, List.setIfInBounds_toArray, List.set_cons_zero, List.set_cons_succ]
  refine wpG_take (nx := [17, 8, 3, 4, 5, 7, 7, 8, 16, 10, 11, 12, 15, 14, 15, 16, 17, 18, 19]) (i := 3) (oi := ⟨some 21, Op.nilCheck (Operand.tmp 20), 0, _, _, none⟩) (v := ?vq3) (by kernel_rfl) rfl (by decide) (by kernel_rfl) (by kernel_rfl) (by kernel_rfl) (fun _ _ _ h => h) (Or.inl ⟨by rfl, fun W hW => ?_⟩) (by assumption) ?_
  rotate_left
  · go_simp
    with_reducible rfl
  try simp only [Act.put, List.setIfInBounds_toArray, List.set_cons_zero, List.set_cons_succ]
  refine wpG_take (nx := [17, 8, 3, 4, 5, 7, 7, 8, 16, 10, 11, 12, 15, 14, 15, 16, 17, 18, 19]) (i := 4) (oi := ⟨some 22, Op.fieldAddr 65 (Operand.tmp 21) 1, 0, _, _, none⟩) (v := ?vq4) (by kernel_rfl) rfl (by decide) (by kernel_rfl) (by kernel_rfl) (by kernel_rfl) (fun _ _ _ h => h) (Or.inl ⟨by rfl, fun W hW => ?_⟩) (by assumption) ?_
  rotate_left
  · go_simp
    with_reducible rfl
  try simp only [Act.put, List.setIfInBounds_toArray, List.set_cons_zero, List.set_cons_succ]
  refine wpG_take (nx := [17, 8, 3, 4, 5, 7, 7, 8, 16, 10, 11, 12, 15, 14, 15, 16, 17, 18, 19]) (i := 5) (oi := ⟨some 23, Op.load 58 (Operand.tmp 22), 58, _, _, none⟩) (v := .slice A n c) (by kernel_rfl) rfl (by decide) (by kernel_rfl) (by kernel_rfl) (by kernel_rfl) (fun _ _ _ h => h) (Or.inl ⟨by rfl, fun W hW => ?_⟩) (by assumption) ?_
  · go_simp
  try simp only [Act.put, List.setIfInBounds_toArray, List.set_cons_zero, List.set_cons_succ]
  refine wpG_take (nx := [17, 8, 3, 4, 5, 7, 7, 8, 16, 10, 11, 12, 15, 14, 15, 16, 17, 18, 19]) (i := 6) (oi := ⟨some 24, Op.move (Operand.tmp 1), 3, _, _, none⟩) (v := ?vq5) (by kernel_rfl) rfl (by decide) (by kernel_rfl) (by kernel_rfl) (by kernel_rfl) (fun _ _ _ h => h) (Or.inl ⟨by rfl, fun W hW => ?_⟩) (by assumption) ?_
  rotate_left
  · go_simp
    with_reducible rfl
  try simp only [Act.put, List.setIfInBounds_toArray, List.set_cons_zero, List.set_cons_succ]
  refine wpG_take (nx := [17, 8, 3, 4, 5, 7, 7, 8, 16, 10, 11, 12, 15, 14, 15, 16, 17, 18, 19]) (i := 7) (oi := ⟨some 25, Op.slice 58 (Operand.tmp 23) none (some (Operand.tmp 24)) none, 58, _, _, none⟩) (v := .slice A i c) (by kernel_rfl) rfl (by decide) (by kernel_rfl) (by kernel_rfl) (by kernel_rfl) (fun _ _ _ h => h) (Or.inl ⟨by rfl, fun W hW => ?_⟩) (by assumption) ?_
  · go_simp
  try simp only [Act.put, List.setIfInBounds_toArray, List.set_cons_zero, List.set_cons_succ]
  refine wpG_take (nx := [17, 8, 3, 4, 5, 7, 7, 8, 16, 10, 11, 12, 15, 14, 15, 16, 17, 18, 19]) (i := 9) (oi := ⟨some 27, Op.move (Operand.tmp 0), 28, _, _, none⟩) (v := ?vq6) (by kernel_rfl) rfl (by decide) (by kernel_rfl) (by kernel_rfl) (by kernel_rfl) (fun _ _ _ h => h) (Or.inl ⟨by rfl, fun W hW => ?_⟩) (by assumption) ?_
  rotate_left
  · go_simp
    with_reducible rfl
  try simp only [Act.put, List.setIfInBounds_toArray, List.set_cons_zero, List.set_cons_succ]
  refine wpG_take (nx := [17, 8, 3, 4, 5, 7, 7, 8, 16, 10, 11, 12, 15, 14, 15, 16, 17, 18, 19]) (i := 10) (oi := ⟨some 28, Op.nilCheck (Operand.tmp 27), 0, _, _, none⟩) (v := ?vq7) (by kernel_rfl) rfl (by decide) (by kernel_rfl) (by kernel_rfl) (by kernel_rfl) (fun _ _ _ h => h) (Or.inl ⟨by rfl, fun W hW => ?_⟩) (by assumption) ?_
  rotate_left
  · go_simp
    with_reducible rfl
  try simp only [Act.put, List.setIfInBounds_toArray, List.set_cons_zero, List.set_cons_succ]
  refine wpG_take (nx := [17, 8, 3, 4, 5, 7, 7, 8, 16, 10, 11, 12, 15, 14, 15, 16, 17, 18, 19]) (i := 11) (oi := ⟨some 29, Op.fieldAddr 65 (Operand.tmp 28) 1, 0, _, _, none⟩) (v := ?vq8) (by kernel_rfl) rfl (by decide) (by kernel_rfl) (by kernel_rfl) (by kernel_rfl) (fun _ _ _ h => h) (Or.inl ⟨by rfl, fun W hW => ?_⟩) (by assumption) ?_
  rotate_left
  · go_simp
    with_reducible rfl
  try simp only [Act.put, List.setIfInBounds_toArray, List.set_cons_zero, List.set_cons_succ]
  refine wpG_take (nx := [17, 8, 3, 4, 5, 7, 7, 8, 16, 10, 11, 12, 15, 14, 15, 16, 17, 18, 19]) (i := 12) (oi := ⟨some 30, Op.load 58 (Operand.tmp 29), 58, _, _, none⟩) (v := .slice A n c) (by kernel_rfl) rfl (by decide) (by kernel_rfl) (by kernel_rfl) (by kernel_rfl) (fun _ _ _ h => h) (Or.inl ⟨by rfl, fun W hW => ?_⟩) (by assumption) ?_
  · go_simp
  try simp only [Act.put, List.setIfInBounds_toArray, List.set_cons_zero, List.set_cons_succ]
  refine wpG_take (nx := [17, 8, 3, 4, 5, 7, 7, 8, 16, 10, 11, 12, 15, 14, 15, 16, 17, 18, 19]) (i := 13) (oi := ⟨some 31, Op.move (Operand.tmp 1), 3, _, _, none⟩) (v := ?vq9) (by kernel_rfl) rfl (by decide) (by kernel_rfl) (by kernel_rfl) (by kernel_rfl) (fun _ _ _ h => h) (Or.inl ⟨by rfl, fun W hW => ?_⟩) (by assumption) ?_
  rotate_left
  · go_simp
    with_reducible rfl
  try simp only [Act.put, List.setIfInBounds_toArray, List.set_cons_zero, List.set_cons_succ]
  refine wpG_take (nx := [17, 8, 3, 4, 5, 7, 7, 8, 16, 10, 11, 12, 15, 14, 15, 16, 17, 18, 19]) (i := 14) (oi := ⟨some 32, Op.binOp BinOp.add 3 (Operand.tmp 31) (Operand.const (Value.int IntKind.i64 1)) 3, 3, _, _, none⟩) (v := .int .i64 j) (by kernel_rfl) rfl (by decide) (by kernel_rfl) (by kernel_rfl) (by kernel_rfl) (fun _ _ _ h => h) (Or.inl ⟨by rfl, fun W hW => ?_⟩) (by assumption) ?_
  · (have a0 := HJ.out; go_simp)
  try simp only [Act.put, List.setIfInBounds_toArray, List.set_cons_zero, List.set_cons_succ]
  refine wpG_take (nx := [17, 8, 3, 4, 5, 7, 7, 8, 16, 10, 11, 12, 15, 14, 15, 16, 17, 18, 19]) (i := 15) (oi := ⟨some 33, Op.slice 58 (Operand.tmp 30) (some (Operand.tmp 32)) none none, 58, _, _, none⟩) (v := .slice B m2 c2) (by kernel_rfl) rfl (by decide) (by kernel_rfl) (by kernel_rfl) (by kernel_rfl) (fun _ _ _ h => h) (Or.inl ⟨by rfl, fun W hW => ?_⟩) (by assumption) ?_
  · go_simp
  try simp only [Act.put, List.setIfInBounds_toArray, List.set_cons_zero, List.set_cons_succ]
  refine wpG_ready (rs := [1]) (by kernel_rfl) (by simp) ?_
  refine AllG.cons (o := ⟨some 19, Op.buildSlice 58 0 #[], 58, _, _, none⟩) rfl (fun KK hKK => ?_) AllG.nil
  go_simp
  obtain ⟨b11, f15⟩ : ∃ b, w0.heap.size = b := ⟨_, rfl⟩
  rw [f15]
  obtain ⟨W10, e14⟩ : ∃ W, World.alloc w0 (.cells #[] 69) = W := ⟨_, rfl⟩
  rw [e14]
  have kk12 : Keeps [] w0 W10 := by rw [← e14]; exact (Keeps.refl [] _).alloc _
  have K13 : Keeps [] w W10 := K0.trans kk12 (by simp)
  have ob16 : W10.ownsRow 0 69 4 (.slice (some ⟨b11, 0, none⟩) 0 0) 0 ([] : List Value) := by rw [← e14, ← f15]; exact own_of_blk (Blk.new _ 69 #[]) (by omega) (by omega) rfl rfl
  have ge17 : ∀ g ∈ fp (.slice (some ⟨b11, 0, none⟩) 0 0), w.heap.size ≤ g := by have := K0.size; intro g hg; have h0 : g = b11 := (by simpa [fp, Value.ownBlock] using hg); omega
  refine hKK.out _ _ (HS.out _ K13) (fun hHeld => ?_)
  clear hKK KK e14 f15
  try simp only [Act.put, List.setIfInBounds_toArray, List.set_cons_zero, List.set_cons_succ]
  refine wpG_ready (rs := [8]) (by kernel_rfl) (by simp) ?_
  refine AllG.cons (o := ⟨some 26, Op.call { callee := Callee.builtin Builtin.append, args := #[Operand.tmp 19, Operand.tmp 25], argTypes := #[58, 58] }, 58, _, _, none⟩) rfl (fun KK hKK => ?_) AllG.nil
  refine step_app (by rfl) (.tmp 19) (.tmp 25) 58 (by rfl) 69 (.agg #[.int .i64 0, .int .i64 0, .int .i64 0, .bool false]) 4 32 Tryz.underlying58 HI.out rfl (by omega) (.slice (some ⟨b11, 0, none⟩) 0 0) 0 (([] : List Value)) ?_ ob16 _ A i c (xs1) ?_ (HR1.out _ K13) H1.out (by unfold maxLen; omega) (by omega) (fun v19 W18 ob20 kk21 f22 => ?_)
  · first | (simp [Act.eval]; done) | (simp [Act.eval, Act.put]; done)
  · first | (simp [Act.eval]; done) | (simp [Act.eval, Act.put]; done)
  have K23 : Keeps [] w W18 := K13.trans kk21 (fun g hg => .inr (ge17 g hg))
  have ge24 : ∀ g ∈ fp v19, w.heap.size ≤ g := ges_app f22 ge17 K13.size
  refine hKK.out _ _ (HS.out _ K23) (fun hHeld => ?_)
  clear hKK KK
  try simp only [Act.put, List.setIfInBounds_toArray, List.set_cons_zero, List.set_cons_succ]
  refine wpG_ready (rs := [16]) (by kernel_rfl) (by simp) ?_
  refine AllG.cons (o := ⟨some 34, Op.call { callee := Callee.builtin Builtin.append, args := #[Operand.tmp 26, Operand.tmp 33], argTypes := #[58, 58] }, 58, _, _, none⟩) rfl (fun KK hKK => ?_) AllG.nil
  refine step_app (by rfl) (.tmp 26) (.tmp 33) 58 (by rfl) 69 (.agg #[.int .i64 0, .int .i64 0, .int .i64 0, .bool false]) 4 32 Tryz.underlying58 HI.out rfl (by omega) v19 (0 + i) ([] ++ xs1) ?_ ob20 _ B m2 c2 (xs2) ?_ (HR2.out _ K23) H2.out (by unfold maxLen; omega) (by omega) (fun v26 W25 ob27 kk28 f29 => ?_)
  · first | (simp [Act.eval]; done) | (simp [Act.eval, Act.put]; done)
  · first | (simp [Act.eval]; done) | (simp [Act.eval, Act.put]; done)
  have K30 : Keeps [] w W25 := K23.trans kk28 (fun g hg => .inr (ge24 g hg))
  have ge31 : ∀ g ∈ fp v26, w.heap.size ≤ g := ges_app f29 ge24 K23.size
  rw [HN3.out] at ob27
  obtain ⟨A32, c33, rfl, -, -, -⟩ := own_shape ob27
  refine hKK.out _ _ (HS.out _ K30) (fun hHeld => ?_)
  clear hKK KK
  try simp only [Act.put, List.setIfInBounds_toArray, List.set_cons_zero, List.set_cons_succ]
  refine wpG_take (nx := [17, 8, 3, 4, 5, 7, 7, 8, 16, 10, 11, 12, 15, 14, 15, 16, 17, 18, 19]) (i := 17) (oi := ⟨some 35, Op.nilCheck (Operand.tmp 18), 0, _, _, none⟩) (v := ?vq34) (by kernel_rfl) rfl (by decide) (by kernel_rfl) (by kernel_rfl) (by kernel_rfl) (fun _ _ _ h => h) (Or.inl ⟨by rfl, fun W hW => ?_⟩) (by assumption) ?_
  rotate_left
  · go_simp
    with_reducible rfl
  try simp only [Act.put, List.setIfInBounds_toArray, List.set_cons_zero, List.set_cons_succ]
  refine wpG_take (nx := [17, 8, 3, 4, 5, 7, 7, 8, 16, 10, 11, 12, 15, 14, 15, 16, 17, 18, 19]) (i := 18) (oi := ⟨some 36, Op.fieldAddr 65 (Operand.tmp 35) 1, 0, _, _, none⟩) (v := ?vq35) (by kernel_rfl) rfl (by decide) (by kernel_rfl) (by kernel_rfl) (by kernel_rfl) (fun _ _ _ h => h) (Or.inl ⟨by rfl, fun W hW => ?_⟩) (by assumption) ?_
  rotate_left
  · go_simp
    with_reducible rfl
  try simp only [Act.put, List.setIfInBounds_toArray, List.set_cons_zero, List.set_cons_succ]
  refine wpG_ready (rs := [19]) (by kernel_rfl) (by simp) ?_
  refine AllG.last (o := ⟨none, Op.store 58 (Operand.tmp 36) (Operand.tmp 34), 0, _, _, none⟩) rfl (fun KK hKK => ?_)
  have hc0 := HS.out _ K30
  have hf0 := HF.out _ K30
  go_simp
  refine hKK.out _ _ ?_
  clear hKK KK hHeld
  try simp only [Act.put, List.setIfInBounds_toArray, List.set_cons_zero, List.set_cons_succ]
  refine wpG_done (by kernel_rfl) ?_ _
  refine NoPanic.normal ?_
  exact hK _ _ _ _ _ _ _ _ _ _ _ _ _ _ _ _ _ _ _ (.slice A32 N3 c33) W25 ob27 K30 ge31
noncomputable def rml8C : Code := ((Tryz.f59.body.bind (theRegion 8)).getD .skip)
set_option maxRecDepth 1000000 in
set_option maxHeartbeats 1600000 in
set_option linter.unusedSimpArgs false in
theorem rml8_any (w : World) (p : Nat) (n i j c m2 c2 N3 : Nat) (A B : Option Addr) (xs1 xs2 : List Value) (K : Exit → Act → World → Prop) (hi : i ≤ n) (hn : n ≤ 1000000) (hm2 : m2 ≤ n) (hN3 : 0 + i + m2 = N3)
    (hS : ∀ W, Keeps [] w W → W.cell? ⟨p, 0, none⟩ = some (.slice A n c)) (hF : ∀ W, Keeps [] w W → W.frozen? ⟨p, 0, none⟩ = false)
    (hs1 : ∀ W, (Instr.slice 62 (.slice A n c) none (some (.int .i64 i)) none).run Tryz.prog W = .ok (.slice A i c) W) (hs2 : ∀ W, (Instr.slice 62 (.slice A n c) (some (.int .i64 j)) none none).run Tryz.prog W = .ok (.slice B m2 c2) W)
    (hr1 : ∀ W, Keeps [] w W → Reads W W.heap.size 4 A i xs1) (hr2 : ∀ W, Keeps [] w W → Reads W W.heap.size 4 B m2 xs2) (h1 : ∀ u ∈ xs1, u.oneCell' = true) (h2 : ∀ u ∈ xs2, u.oneCell' = true)
    (hj : IntKind.i64.wrap ((i : Int) + 1) = (j : Int))
    (u1 u2 u3 u4 u5 u6 u8 u9 u10 u11 u12 u13 u14 u15 u16 u17 u18 u19 u20 u21 u22 u23 u24 u25 u26 u27 u28 u29 u30 u31 u32 u33 u34 u35 u36 u37 u38 u39 u40 u41 u42 u43 u44 u45 u46 u47 u48 u49 u50 u51 u52 u53 u54 u55 u56 u57 u58 u59 u60 u61 u62 u63 u64 u65 u66 u67 u68 u69 u70 u71 u72 u73 u74 u75 u76 u77 u78 u79 u80 u81 u82 u83 u84 u85 u86 : Value)
    (hK : ∀ (v34 v35 v36 v37 v38 v39 v40 v41 v42 v43 v44 v45 v46 v47 v48 v49 v50 v51 v52 : Value) (v3 : Value) (W : World), W.ownsRow 0 56 4 v3 N3 ([] ++ xs1 ++ xs2) → Keeps [] w W → (∀ g ∈ fp v3, w.heap.size ≤ g) → K .normal ⟨#[.pointer (some ⟨p, 0, none⟩), u1, u2, u3, u4, u5, u6, .int .i64 i, u8, u9, u10, u11, u12, u13, u14, u15, u16, u17, u18, u19, u20, u21, u22, u23, u24, u25, u26, u27, u28, u29, u30, u31, u32, u33, v34, v35, v36, v37, v38, v39, v40, v41, v42, v43, v44, v45, v46, v47, v48, v49, v50, v51, v52, u53, u54, u55, u56, u57, u58, u59, u60, u61, u62, u63, u64, u65, u66, u67, u68, u69, u70, u71, u72, u73, u74, u75, u76, u77, u78, u79, u80, u81, u82, u83, u84, u85, u86], []⟩ (W.setCell ⟨p, 0, none⟩ v3)) :
    Code.wp Tryz.prog rml8C K ⟨#[.pointer (some ⟨p, 0, none⟩), u1, u2, u3, u4, u5, u6, .int .i64 i, u8, u9, u10, u11, u12, u13, u14, u15, u16, u17, u18, u19, u20, u21, u22, u23, u24, u25, u26, u27, u28, u29, u30, u31, u32, u33, u34, u35, u36, u37, u38, u39, u40, u41, u42, u43, u44, u45, u46, u47, u48, u49, u50, u51, u52, u53, u54, u55, u56, u57, u58, u59, u60, u61, u62, u63, u64, u65, u66, u67, u68, u69, u70, u71, u72, u73, u74, u75, u76, u77, u78, u79, u80, u81, u82, u83, u84, u85, u86], []⟩ w := by
  have HS := Lib.hid hS
  have HF := Lib.hid hF
  have HR1 := Lib.hid hr1
  have HR2 := Lib.hid hr2
  have H1 := Lib.hid h1
  have H2 := Lib.hid h2
  have HI := Lib.hid info56
  have HN3 := Lib.hid hN3
  have HJ := Lib.hid hj
  clear hj
  clear hS hF hr1 hr2 h1 h2 hN3
  conv => arg 2; whnf
  try dsimp only at hK ⊢
  refine wp_region_noPanic ?_
  refine wp_region_last (S := fun W => W.cell? ⟨p, 0, none⟩ = some (.slice A n c)) 19 (by kernel_rfl) (HS.out _ ((Keeps.refl [] w).drew)) (fun hHeld => ?_)
  obtain ⟨w0, hw0⟩ : ∃ w0, w.drew = w0 := ⟨_, rfl⟩
  try rw [hw0] at hHeld
  rw [hw0]
  have K0 : Keeps [] w w0 := by rw [← hw0]; exact (Keeps.refl [] w).drew
  clear hw0
  refine wpG_take (nx := [17, 8, 3, 4, 5, 7, 7, 8, 16, 10, 11, 12, 15, 14, 15, 16, 17, 18, 19]) (i := 0) (oi := ⟨some 34, Op.move (Operand.tmp 0), 28, _, _, none⟩) (v := ?vq36) (by kernel_rfl) rfl (by decide) (by kernel_rfl) (by kernel_rfl) (by kernel_rfl) (fun _ _ _ h => h) (Or.inl ⟨by rfl, fun W hW => ?_⟩) (by assumption) ?_
  rotate_left
  · go_simp
    with_reducible rfl
  try simp only [Act.put, List.setIfInBounds_toArray, List.set_cons_zero, List.set_cons_succ]
  refine wpG_take (nx := [17, 8, 3, 4, 5, 7, 7, 8, 16, 10, 11, 12, 15, 14, 15, 16, 17, 18, 19]) (i := 2) (oi := ⟨some 36, Op.move (Operand.tmp 0), 28, _, _, none⟩) (v := ?vq37) (by kernel_rfl) rfl (by decide) (by kernel_rfl) (by kernel_rfl) (by kernel_rfl) (fun _ _ _ h => h) (Or.inl ⟨by rfl, fun W hW => ?_⟩) (by assumption) ?_
  rotate_left
  · go_simp
    with_reducible rfl
  try simp only [Act.put, List.setIfInBounds_toArray, List.set_cons_zero, List.set_cons_succ]
  refine wpG_take (nx := [17, 8, 3, 4, 5, 7, 7, 8, 16, 10, 11, 12, 15, 14, 15, 16, 17, 18, 19]) (i := 3) (oi := ⟨some 37, Op.nilCheck (Operand.tmp 36), 0, _, _, none⟩) (v := ?vq38) (by kernel_rfl) rfl (by decide) (by kernel_rfl) (by kernel_rfl) (by kernel_rfl) (fun _ _ _ h => h) (Or.inl ⟨by rfl, fun W hW => ?_⟩) (by assumption) ?_
  rotate_left
  · go_simp
    with_reducible rfl
  try simp only [Act.put, List.setIfInBounds_toArray, List.set_cons_zero, List.set_cons_succ]
  refine wpG_take (nx := [17, 8, 3, 4, 5, 7, 7, 8, 16, 10, 11, 12, 15, 14, 15, 16, 17, 18, 19]) (i := 4) (oi := ⟨some 38, Op.fieldAddr 65 (Operand.tmp 37) 0, 0, _, _, none⟩) (v := ?vq39) (by kernel_rfl) rfl (by decide) (by kernel_rfl) (by kernel_rfl) (by kernel_rfl) (fun _ _ _ h => h) (Or.inl ⟨by rfl, fun W hW => ?_⟩) (by assumption) ?_
  rotate_left
  · go_simp
    with_reducible rfl
  try simp only [Act.put, List.setIfInBounds_toArray, List.set_cons_zero, List.set_cons_succ]
  refine wpG_take (nx := [17, 8, 3, 4, 5, 7, 7, 8, 16, 10, 11, 12, 15, 14, 15, 16, 17, 18, 19]) (i := 5) (oi := ⟨some 39, Op.load 62 (Operand.tmp 38), 62, _, _, none⟩) (v := .slice A n c) (by kernel_rfl) rfl (by decide) (by kernel_rfl) (by kernel_rfl) (by kernel_rfl) (fun _ _ _ h => h) (Or.inl ⟨by rfl, fun W hW => ?_⟩) (by assumption) ?_
  · go_simp
  try simp only [Act.put, List.setIfInBounds_toArray, List.set_cons_zero, List.set_cons_succ]
  refine wpG_take (nx := [17, 8, 3, 4, 5, 7, 7, 8, 16, 10, 11, 12, 15, 14, 15, 16, 17, 18, 19]) (i := 6) (oi := ⟨some 40, Op.move (Operand.tmp 7), 3, _, _, none⟩) (v := ?vq40) (by kernel_rfl) rfl (by decide) (by kernel_rfl) (by kernel_rfl) (by kernel_rfl) (fun _ _ _ h => h) (Or.inl ⟨by rfl, fun W hW => ?_⟩) (by assumption) ?_
  rotate_left
  · go_simp
    with_reducible rfl
  try simp only [Act.put, List.setIfInBounds_toArray, List.set_cons_zero, List.set_cons_succ]
  refine wpG_take (nx := [17, 8, 3, 4, 5, 7, 7, 8, 16, 10, 11, 12, 15, 14, 15, 16, 17, 18, 19]) (i := 7) (oi := ⟨some 41, Op.slice 62 (Operand.tmp 39) none (some (Operand.tmp 40)) none, 62, _, _, none⟩) (v := .slice A i c) (by kernel_rfl) rfl (by decide) (by kernel_rfl) (by kernel_rfl) (by kernel_rfl) (fun _ _ _ h => h) (Or.inl ⟨by rfl, fun W hW => ?_⟩) (by assumption) ?_
  · go_simp
  try simp only [Act.put, List.setIfInBounds_toArray, List.set_cons_zero, List.set_cons_succ]
  refine wpG_take (nx := [17, 8, 3, 4, 5, 7, 7, 8, 16, 10, 11, 12, 15, 14, 15, 16, 17, 18, 19]) (i := 9) (oi := ⟨some 43, Op.move (Operand.tmp 0), 28, _, _, none⟩) (v := ?vq41) (by kernel_rfl) rfl (by decide) (by kernel_rfl) (by kernel_rfl) (by kernel_rfl) (fun _ _ _ h => h) (Or.inl ⟨by rfl, fun W hW => ?_⟩) (by assumption) ?_
  rotate_left
  · go_simp
    with_reducible rfl
  try simp only [Act.put, List.setIfInBounds_toArray, List.set_cons_zero, List.set_cons_succ]
  refine wpG_take (nx := [17, 8, 3, 4, 5, 7, 7, 8, 16, 10, 11, 12, 15, 14, 15, 16, 17, 18, 19]) (i := 10) (oi := ⟨some 44, Op.nilCheck (Operand.tmp 43), 0, _, _, none⟩) (v := ?vq42) (by kernel_rfl) rfl (by decide) (by kernel_rfl) (by kernel_rfl) (by kernel_rfl) (fun _ _ _ h => h) (Or.inl ⟨by rfl, fun W hW => ?_⟩) (by assumption) ?_
  rotate_left
  · go_simp
    with_reducible rfl
  try simp only [Act.put, List.setIfInBounds_toArray, List.set_cons_zero, List.set_cons_succ]
  refine wpG_take (nx := [17, 8, 3, 4, 5, 7, 7, 8, 16, 10, 11, 12, 15, 14, 15, 16, 17, 18, 19]) (i := 11) (oi := ⟨some 45, Op.fieldAddr 65 (Operand.tmp 44) 0, 0, _, _, none⟩) (v := ?vq43) (by kernel_rfl) rfl (by decide) (by kernel_rfl) (by kernel_rfl) (by kernel_rfl) (fun _ _ _ h => h) (Or.inl ⟨by rfl, fun W hW => ?_⟩) (by assumption) ?_
  rotate_left
  · go_simp
    with_reducible rfl
  try simp only [Act.put, List.setIfInBounds_toArray, List.set_cons_zero, List.set_cons_succ]
  refine wpG_take (nx := [17, 8, 3, 4, 5, 7, 7, 8, 16, 10, 11, 12, 15, 14, 15, 16, 17, 18, 19]) (i := 12) (oi := ⟨some 46, Op.load 62 (Operand.tmp 45), 62, _, _, none⟩) (v := .slice A n c) (by kernel_rfl) rfl (by decide) (by kernel_rfl) (by kernel_rfl) (by kernel_rfl) (fun _ _ _ h => h) (Or.inl ⟨by rfl, fun W hW => ?_⟩) (by assumption) ?_
  · go_simp
  try simp only [Act.put, List.setIfInBounds_toArray, List.set_cons_zero, List.set_cons_succ]
  refine wpG_take (nx := [17, 8, 3, 4, 5, 7, 7, 8, 16, 10, 11, 12, 15, 14, 15, 16, 17, 18, 19]) (i := 13) (oi := ⟨some 47, Op.move (Operand.tmp 7), 3, _, _, none⟩) (v := ?vq44) (by kernel_rfl) rfl (by decide) (by kernel_rfl) (by kernel_rfl) (by kernel_rfl) (fun _ _ _ h => h) (Or.inl ⟨by rfl, fun W hW => ?_⟩) (by assumption) ?_
  rotate_left
  · go_simp
    with_reducible rfl
  try simp only [Act.put, List.setIfInBounds_toArray, List.set_cons_zero, List.set_cons_succ]
  refine wpG_take (nx := [17, 8, 3, 4, 5, 7, 7, 8, 16, 10, 11, 12, 15, 14, 15, 16, 17, 18, 19]) (i := 14) (oi := ⟨some 48, Op.binOp BinOp.add 3 (Operand.tmp 47) (Operand.const (Value.int IntKind.i64 1)) 3, 3, _, _, none⟩) (v := .int .i64 j) (by kernel_rfl) rfl (by decide) (by kernel_rfl) (by kernel_rfl) (by kernel_rfl) (fun _ _ _ h => h) (Or.inl ⟨by rfl, fun W hW => ?_⟩) (by assumption) ?_
  · (have a0 := HJ.out; go_simp)
  try simp only [Act.put, List.setIfInBounds_toArray, List.set_cons_zero, List.set_cons_succ]
  refine wpG_take (nx := [17, 8, 3, 4, 5, 7, 7, 8, 16, 10, 11, 12, 15, 14, 15, 16, 17, 18, 19]) (i := 15) (oi := ⟨some 49, Op.slice 62 (Operand.tmp 46) (some (Operand.tmp 48)) none none, 62, _, _, none⟩) (v := .slice B m2 c2) (by kernel_rfl) rfl (by decide) (by kernel_rfl) (by kernel_rfl) (by kernel_rfl) (fun _ _ _ h => h) (Or.inl ⟨by rfl, fun W hW => ?_⟩) (by assumption) ?_
  · go_simp
  try simp only [Act.put, List.setIfInBounds_toArray, List.set_cons_zero, List.set_cons_succ]
  refine wpG_ready (rs := [1]) (by kernel_rfl) (by simp) ?_
  refine AllG.cons (o := ⟨some 35, Op.buildSlice 62 0 #[], 62, _, _, none⟩) rfl (fun KK hKK => ?_) AllG.nil
  go_simp
  obtain ⟨b46, f50⟩ : ∃ b, w0.heap.size = b := ⟨_, rfl⟩
  rw [f50]
  obtain ⟨W45, e49⟩ : ∃ W, World.alloc w0 (.cells #[] 56) = W := ⟨_, rfl⟩
  rw [e49]
  have kk47 : Keeps [] w0 W45 := by rw [← e49]; exact (Keeps.refl [] _).alloc _
  have K48 : Keeps [] w W45 := K0.trans kk47 (by simp)
  have ob51 : W45.ownsRow 0 56 4 (.slice (some ⟨b46, 0, none⟩) 0 0) 0 ([] : List Value) := by rw [← e49, ← f50]; exact own_of_blk (Blk.new _ 56 #[]) (by omega) (by omega) rfl rfl
  have ge52 : ∀ g ∈ fp (.slice (some ⟨b46, 0, none⟩) 0 0), w.heap.size ≤ g := by have := K0.size; intro g hg; have h0 : g = b46 := (by simpa [fp, Value.ownBlock] using hg); omega
  refine hKK.out _ _ (HS.out _ K48) (fun hHeld => ?_)
  clear hKK KK e49 f50
  try simp only [Act.put, List.setIfInBounds_toArray, List.set_cons_zero, List.set_cons_succ]
  refine wpG_ready (rs := [8]) (by kernel_rfl) (by simp) ?_
  refine AllG.cons (o := ⟨some 42, Op.call { callee := Callee.builtin Builtin.append, args := #[Operand.tmp 35, Operand.tmp 41], argTypes := #[62, 62] }, 62, _, _, none⟩) rfl (fun KK hKK => ?_) AllG.nil
  refine step_app (by rfl) (.tmp 35) (.tmp 41) 62 (by rfl) 56 (.agg #[.int .i64 0, .int .i64 0, .int .i64 0, .slice none 0 0]) 4 48 Tryz.underlying62 HI.out rfl (by omega) (.slice (some ⟨b46, 0, none⟩) 0 0) 0 (([] : List Value)) ?_ ob51 _ A i c (xs1) ?_ (HR1.out _ K48) H1.out (by unfold maxLen; omega) (by omega) (fun v54 W53 ob55 kk56 f57 => ?_)
  · first | (simp [Act.eval]; done) | (simp [Act.eval, Act.put]; done)
  · first | (simp [Act.eval]; done) | (simp [Act.eval, Act.put]; done)
  have K58 : Keeps [] w W53 := K48.trans kk56 (fun g hg => .inr (ge52 g hg))
  have ge59 : ∀ g ∈ fp v54, w.heap.size ≤ g := ges_app f57 ge52 K48.size
  refine hKK.out _ _ (HS.out _ K58) (fun hHeld => ?_)
  clear hKK KK
  try simp only [Act.put, List.setIfInBounds_toArray, List.set_cons_zero, List.set_cons_succ]
  refine wpG_ready (rs := [16]) (by kernel_rfl) (by simp) ?_
  refine AllG.cons (o := ⟨some 50, Op.call { callee := Callee.builtin Builtin.append, args := #[Operand.tmp 42, Operand.tmp 49], argTypes := #[62, 62] }, 62, _, _, none⟩) rfl (fun KK hKK => ?_) AllG.nil
  refine step_app (by rfl) (.tmp 42) (.tmp 49) 62 (by rfl) 56 (.agg #[.int .i64 0, .int .i64 0, .int .i64 0, .slice none 0 0]) 4 48 Tryz.underlying62 HI.out rfl (by omega) v54 (0 + i) ([] ++ xs1) ?_ ob55 _ B m2 c2 (xs2) ?_ (HR2.out _ K58) H2.out (by unfold maxLen; omega) (by omega) (fun v61 W60 ob62 kk63 f64 => ?_)
  · first | (simp [Act.eval]; done) | (simp [Act.eval, Act.put]; done)
  · first | (simp [Act.eval]; done) | (simp [Act.eval, Act.put]; done)
  have K65 : Keeps [] w W60 := K58.trans kk63 (fun g hg => .inr (ge59 g hg))
  have ge66 : ∀ g ∈ fp v61, w.heap.size ≤ g := ges_app f64 ge59 K58.size
  rw [HN3.out] at ob62
  obtain ⟨A67, c68, rfl, -, -, -⟩ := own_shape ob62
  refine hKK.out _ _ (HS.out _ K65) (fun hHeld => ?_)
  clear hKK KK
  try simp only [Act.put, List.setIfInBounds_toArray, List.set_cons_zero, List.set_cons_succ]
  refine wpG_take (nx := [17, 8, 3, 4, 5, 7, 7, 8, 16, 10, 11, 12, 15, 14, 15, 16, 17, 18, 19]) (i := 17) (oi := ⟨some 51, Op.nilCheck (Operand.tmp 34), 0, _, _, none⟩) (v := ?vq69) (by kernel_rfl) rfl (by decide) (by kernel_rfl) (by kernel_rfl) (by kernel_rfl) (fun _ _ _ h => h) (Or.inl ⟨by rfl, fun W hW => ?_⟩) (by assumption) ?_
  rotate_left
  · go_simp
    with_reducible rfl
  try simp only [Act.put, List.setIfInBounds_toArray, List.set_cons_zero, List.set_cons_succ]
  refine wpG_take (nx := [17, 8, 3, 4, 5, 7, 7, 8, 16, 10, 11, 12, 15, 14, 15, 16, 17, 18, 19]) (i := 18) (oi := ⟨some 52, Op.fieldAddr 65 (Operand.tmp 51) 0, 0, _, _, none⟩) (v := ?vq70) (by kernel_rfl) rfl (by decide) (by kernel_rfl) (by kernel_rfl) (by kernel_rfl) (fun _ _ _ h => h) (Or.inl ⟨by rfl, fun W hW => ?_⟩) (by assumption) ?_
  rotate_left
  · go_simp
    with_reducible rfl
  try simp only [Act.put, List.setIfInBounds_toArray, List.set_cons_zero, List.set_cons_succ]
  refine wpG_ready (rs := [19]) (by kernel_rfl) (by simp) ?_
  refine AllG.last (o := ⟨none, Op.store 62 (Operand.tmp 52) (Operand.tmp 50), 0, _, _, none⟩) rfl (fun KK hKK => ?_)
  have hc0 := HS.out _ K65
  have hf0 := HF.out _ K65
  go_simp
  refine hKK.out _ _ ?_
  clear hKK KK hHeld
  try simp only [Act.put, List.setIfInBounds_toArray, List.set_cons_zero, List.set_cons_succ]
  refine wpG_done (by kernel_rfl) ?_ _
  refine NoPanic.normal ?_
  exact hK _ _ _ _ _ _ _ _ _ _ _ _ _ _ _ _ _ _ _ (.slice A67 N3 c68) W60 ob62 K65 ge66
noncomputable def com16qC : Code := ((Tryz.f29.body.bind (theRegion 16)).getD .skip)
set_option maxRecDepth 1000000 in
set_option maxHeartbeats 1600000 in
set_option linter.unusedSimpArgs false in
theorem com16q_any (w : World) (p : Nat) (n i j c m2 c2 N3 : Nat) (A B : Option Addr) (xs1 xs2 : List Value) (K : Exit → Act → World → Prop) (hi : i ≤ n) (hn : n ≤ 1000000) (hm2 : m2 ≤ n) (hN3 : 0 + i + m2 = N3)
    (hS : ∀ W, Keeps [] w W → W.cell? ⟨p, 1, none⟩ = some (.slice A n c)) (hF : ∀ W, Keeps [] w W → W.frozen? ⟨p, 1, none⟩ = false)
    (hs1 : ∀ W, (Instr.slice 58 (.slice A n c) none (some (.int .i64 i)) none).run Tryz.prog W = .ok (.slice A i c) W) (hs2 : ∀ W, (Instr.slice 58 (.slice A n c) (some (.int .i64 j)) none none).run Tryz.prog W = .ok (.slice B m2 c2) W)
    (hr1 : ∀ W, Keeps [] w W → Reads W W.heap.size 4 A i xs1) (hr2 : ∀ W, Keeps [] w W → Reads W W.heap.size 4 B m2 xs2) (h1 : ∀ u ∈ xs1, u.oneCell' = true) (h2 : ∀ u ∈ xs2, u.oneCell' = true)
    (hj : IntKind.i64.wrap ((i : Int) + 1) = (j : Int))
    (u1 u2 u3 u4 u5 u6 u7 u8 u9 u11 u12 u13 u14 u15 u16 u17 u18 u19 u20 u21 u22 u23 u24 u25 u26 u27 u28 u29 u30 u31 u32 u33 u34 u35 u36 u37 u38 u39 u40 u41 u42 u43 u44 u45 u46 u47 u48 u49 u50 u51 u52 u53 u54 u55 u56 u57 u58 u59 u60 u61 u62 u63 u64 u65 u66 u67 u68 u69 u70 u71 u72 u73 u74 u75 u76 u77 u78 u79 u80 u81 u82 u83 u84 u85 u86 u87 u88 u89 u90 u91 u92 u93 u94 u95 u96 u97 u98 u99 u100 u101 u102 u103 u104 u105 u106 u107 u108 u109 u110 u111 u112 u113 u114 u115 u116 u117 u118 u119 u120 u121 u122 u123 u124 u125 u126 u127 u128 u129 u130 u131 u132 u133 u134 u135 u136 u137 u138 u139 u140 u141 u142 u143 u144 u145 u146 u147 u148 u149 u150 u151 u152 u153 u154 u155 u156 u157 u158 u159 u160 u161 u162 u163 u164 u165 u166 u167 u168 : Value)
    (hK : ∀ (v90 v91 v92 v93 v94 v95 v96 v97 v98 v99 v100 v101 v102 v103 v104 v105 v106 v107 v108 : Value) (v3 : Value) (W : World), W.ownsRow 0 69 4 v3 N3 ([] ++ xs1 ++ xs2) → Keeps [] w W → (∀ g ∈ fp v3, w.heap.size ≤ g) → K .normal ⟨#[.pointer (some ⟨p, 0, none⟩), u1, u2, u3, u4, u5, u6, u7, u8, u9, .int .i64 i, u11, u12, u13, u14, u15, u16, u17, u18, u19, u20, u21, u22, u23, u24, u25, u26, u27, u28, u29, u30, u31, u32, u33, u34, u35, u36, u37, u38, u39, u40, u41, u42, u43, u44, u45, u46, u47, u48, u49, u50, u51, u52, u53, u54, u55, u56, u57, u58, u59, u60, u61, u62, u63, u64, u65, u66, u67, u68, u69, u70, u71, u72, u73, u74, u75, u76, u77, u78, u79, u80, u81, u82, u83, u84, u85, u86, u87, u88, u89, v90, v91, v92, v93, v94, v95, v96, v97, v98, v99, v100, v101, v102, v103, v104, v105, v106, v107, v108, u109, u110, u111, u112, u113, u114, u115, u116, u117, u118, u119, u120, u121, u122, u123, u124, u125, u126, u127, u128, u129, u130, u131, u132, u133, u134, u135, u136, u137, u138, u139, u140, u141, u142, u143, u144, u145, u146, u147, u148, u149, u150, u151, u152, u153, u154, u155, u156, u157, u158, u159, u160, u161, u162, u163, u164, u165, u166, u167, u168], []⟩ (W.setCell ⟨p, 1, none⟩ v3)) :
    Code.wp Tryz.prog com16qC K ⟨#[.pointer (some ⟨p, 0, none⟩), u1, u2, u3, u4, u5, u6, u7, u8, u9, .int .i64 i, u11, u12, u13, u14, u15, u16, u17, u18, u19, u20, u21, u22, u23, u24, u25, u26, u27, u28, u29, u30, u31, u32, u33, u34, u35, u36, u37, u38, u39, u40, u41, u42, u43, u44, u45, u46, u47, u48, u49, u50, u51, u52, u53, u54, u55, u56, u57, u58, u59, u60, u61, u62, u63, u64, u65, u66, u67, u68, u69, u70, u71, u72, u73, u74, u75, u76, u77, u78, u79, u80, u81, u82, u83, u84, u85, u86, u87, u88, u89, u90, u91, u92, u93, u94, u95, u96, u97, u98, u99, u100, u101, u102, u103, u104, u105, u106, u107, u108, u109, u110, u111, u112, u113, u114, u115, u116, u117, u118, u119, u120, u121, u122, u123, u124, u125, u126, u127, u128, u129, u130, u131, u132, u133, u134, u135, u136, u137, u138, u139, u140, u141, u142, u143, u144, u145, u146, u147, u148, u149, u150, u151, u152, u153, u154, u155, u156, u157, u158, u159, u160, u161, u162, u163, u164, u165, u166, u167, u168], []⟩ w := by
  have HS := Lib.hid hS
  have HF := Lib.hid hF
  have HR1 := Lib.hid hr1
  have HR2 := Lib.hid hr2
  have H1 := Lib.hid h1
  have H2 := Lib.hid h2
  have HI := Lib.hid info69
  have HN3 := Lib.hid hN3
  have HJ := Lib.hid hj
  clear hj
  clear hS hF hr1 hr2 h1 h2 hN3
  conv => arg 2; whnf
  try dsimp only at hK ⊢
  refine wp_region_noPanic ?_
  refine wp_region_last (S := fun W => W.cell? ⟨p, 1, none⟩ = some (.slice A n c)) 19 (by kernel_rfl) (HS.out _ ((Keeps.refl [] w).drew)) (fun hHeld => ?_)
  obtain ⟨w0, hw0⟩ : ∃ w0, w.drew = w0 := ⟨_, rfl⟩
  try rw [hw0] at hHeld
  rw [hw0]
  have K0 : Keeps [] w w0 := by rw [← hw0]; exact (Keeps.refl [] w).drew
  clear hw0
  refine wpG_take (nx := [17, 8, 3, 4, 5, 7, 7, 8, 16, 10, 11, 12, 15, 14, 15, 16, 17, 18, 19]) (i := 0) (oi := ⟨some 90, Op.move (Operand.tmp 0), 28, _, _, none⟩) (v := ?vq71) (by kernel_rfl) rfl (by decide) (by kernel_rfl) (by kernel_rfl) (by kernel_rfl) (fun _ _ _ h => h) (Or.inl ⟨by rfl, fun W hW => ?_⟩) (by assumption) ?_
  rotate_left
  · go_simp
    with_reducible rfl
  try simp only [Act.put, List.setIfInBounds_toArray, List.set_cons_zero, List.set_cons_succ]
  refine wpG_take (nx := [17, 8, 3, 4, 5, 7, 7, 8, 16, 10, 11, 12, 15, 14, 15, 16, 17, 18, 19]) (i := 2) (oi := ⟨some 92, Op.move (Operand.tmp 0), 28, _, _, none⟩) (v := ?vq72) (by kernel_rfl) rfl (by decide) (by kernel_rfl) (by kernel_rfl) (by kernel_rfl) (fun _ _ _ h => h) (Or.inl ⟨by rfl, fun W hW => ?_⟩) (by assumption) ?_
  rotate_left
  · go_simp
    with_reducible rfl
  try simp only [Act.put, List.setIfInBounds_toArray, List.set_cons_zero, List.set_cons_succ]
  refine wpG_take (nx := [17, 8, 3, 4, 5, 7, 7, 8, 16, 10, 11, 12, 15, 14, 15, 16, 17, 18, 19]) (i := 3) (oi := ⟨some 93, Op.nilCheck (Operand.tmp 92), 0, _, _, none⟩) (v := ?vq73) (by kernel_rfl) rfl (by decide) (by kernel_rfl) (by kernel_rfl) (by kernel_rfl) (fun _ _ _ h => h) (Or.inl ⟨by rfl, fun W hW => ?_⟩) (by assumption) ?_
  rotate_left
  · go_simp
    with_reducible rfl
  try simp only [Act.put, List.setIfInBounds_toArray, List.set_cons_zero, List.set_cons_succ]
  refine wpG_take (nx := [17, 8, 3, 4, 5, 7, 7, 8, 16, 10, 11, 12, 15, 14, 15, 16, 17, 18, 19]) (i := 4) (oi := ⟨some 94, Op.fieldAddr 65 (Operand.tmp 93) 1, 0, _, _, none⟩) (v := ?vq74) (by kernel_rfl) rfl (by decide) (by kernel_rfl) (by kernel_rfl) (by kernel_rfl) (fun _ _ _ h => h) (Or.inl ⟨by rfl, fun W hW => ?_⟩) (by assumption) ?_
  rotate_left
  · go_simp
    with_reducible rfl
  try simp only [Act.put, List.setIfInBounds_toArray, List.set_cons_zero, List.set_cons_succ]
  refine wpG_take (nx := [17, 8, 3, 4, 5, 7, 7, 8, 16, 10, 11, 12, 15, 14, 15, 16, 17, 18, 19]) (i := 5) (oi := ⟨some 95, Op.load 58 (Operand.tmp 94), 58, _, _, none⟩) (v := .slice A n c) (by kernel_rfl) rfl (by decide) (by kernel_rfl) (by kernel_rfl) (by kernel_rfl) (fun _ _ _ h => h) (Or.inl ⟨by rfl, fun W hW => ?_⟩) (by assumption) ?_
  · go_simp
  try simp only [Act.put, List.setIfInBounds_toArray, List.set_cons_zero, List.set_cons_succ]
  refine wpG_take (nx := [17, 8, 3, 4, 5, 7, 7, 8, 16, 10, 11, 12, 15, 14, 15, 16, 17, 18, 19]) (i := 6) (oi := ⟨some 96, Op.move (Operand.tmp 10), 3, _, _, none⟩) (v := ?vq75) (by kernel_rfl) rfl (by decide) (by kernel_rfl) (by kernel_rfl) (by kernel_rfl) (fun _ _ _ h => h) (Or.inl ⟨by rfl, fun W hW => ?_⟩) (by assumption) ?_
  rotate_left
  · go_simp
    with_reducible rfl
  try simp only [Act.put, List.setIfInBounds_toArray, List.set_cons_zero, List.set_cons_succ]
  refine wpG_take (nx := [17, 8, 3, 4, 5, 7, 7, 8, 16, 10, 11, 12, 15, 14, 15, 16, 17, 18, 19]) (i := 7) (oi := ⟨some 97, Op.slice 58 (Operand.tmp 95) none (some (Operand.tmp 96)) none, 58, _, _, none⟩) (v := .slice A i c) (by kernel_rfl) rfl (by decide) (by kernel_rfl) (by kernel_rfl) (by kernel_rfl) (fun _ _ _ h => h) (Or.inl ⟨by rfl, fun W hW => ?_⟩) (by assumption) ?_
  · go_simp
  try simp only [Act.put, List.setIfInBounds_toArray, List.set_cons_zero, List.set_cons_succ]
  refine wpG_take (nx := [17, 8, 3, 4, 5, 7, 7, 8, 16, 10, 11, 12, 15, 14, 15, 16, 17, 18, 19]) (i := 9) (oi := ⟨some 99, Op.move (Operand.tmp 0), 28, _, _, none⟩) (v := ?vq76) (by kernel_rfl) rfl (by decide) (by kernel_rfl) (by kernel_rfl) (by kernel_rfl) (fun _ _ _ h => h) (Or.inl ⟨by rfl, fun W hW => ?_⟩) (by assumption) ?_
  rotate_left
  · go_simp
    with_reducible rfl
  try simp only [Act.put, List.setIfInBounds_toArray, List.set_cons_zero, List.set_cons_succ]
  refine wpG_take (nx := [17, 8, 3, 4, 5, 7, 7, 8, 16, 10, 11, 12, 15, 14, 15, 16, 17, 18, 19]) (i := 10) (oi := ⟨some 100, Op.nilCheck (Operand.tmp 99), 0, _, _, none⟩) (v := ?vq77) (by kernel_rfl) rfl (by decide) (by kernel_rfl) (by kernel_rfl) (by kernel_rfl) (fun _ _ _ h => h) (Or.inl ⟨by rfl, fun W hW => ?_⟩) (by assumption) ?_
  rotate_left
  · go_simp
    with_reducible rfl
  try simp only [Act.put, List.setIfInBounds_toArray, List.set_cons_zero, List.set_cons_succ]
  refine wpG_take (nx := [17, 8, 3, 4, 5, 7, 7, 8, 16, 10, 11, 12, 15, 14, 15, 16, 17, 18, 19]) (i := 11) (oi := ⟨some 101, Op.fieldAddr 65 (Operand.tmp 100) 1, 0, _, _, none⟩) (v := ?vq78) (by kernel_rfl) rfl (by decide) (by kernel_rfl) (by kernel_rfl) (by kernel_rfl) (fun _ _ _ h => h) (Or.inl ⟨by rfl, fun W hW => ?_⟩) (by assumption) ?_
  rotate_left
  · go_simp
    with_reducible rfl
  try simp only [Act.put, List.setIfInBounds_toArray, List.set_cons_zero, List.set_cons_succ]
  refine wpG_take (nx := [17, 8, 3, 4, 5, 7, 7, 8, 16, 10, 11, 12, 15, 14, 15, 16, 17, 18, 19]) (i := 12) (oi := ⟨some 102, Op.load 58 (Operand.tmp 101), 58, _, _, none⟩) (v := .slice A n c) (by kernel_rfl) rfl (by decide) (by kernel_rfl) (by kernel_rfl) (by kernel_rfl) (fun _ _ _ h => h) (Or.inl ⟨by rfl, fun W hW => ?_⟩) (by assumption) ?_
  · go_simp
  try simp only [Act.put, List.setIfInBounds_toArray, List.set_cons_zero, List.set_cons_succ]
  refine wpG_take (nx := [17, 8, 3, 4, 5, 7, 7, 8, 16, 10, 11, 12, 15, 14, 15, 16, 17, 18, 19]) (i := 13) (oi := ⟨some 103, Op.move (Operand.tmp 10), 3, _, _, none⟩) (v := ?vq79) (by kernel_rfl) rfl (by decide) (by kernel_rfl) (by kernel_rfl) (by kernel_rfl) (fun _ _ _ h => h) (Or.inl ⟨by rfl, fun W hW => ?_⟩) (by assumption) ?_
  rotate_left
  · go_simp
    with_reducible rfl
  try simp only [Act.put, List.setIfInBounds_toArray, List.set_cons_zero, List.set_cons_succ]
  refine wpG_take (nx := [17, 8, 3, 4, 5, 7, 7, 8, 16, 10, 11, 12, 15, 14, 15, 16, 17, 18, 19]) (i := 14) (oi := ⟨some 104, Op.binOp BinOp.add 3 (Operand.tmp 103) (Operand.const (Value.int IntKind.i64 1)) 3, 3, _, _, none⟩) (v := .int .i64 j) (by kernel_rfl) rfl (by decide) (by kernel_rfl) (by kernel_rfl) (by kernel_rfl) (fun _ _ _ h => h) (Or.inl ⟨by rfl, fun W hW => ?_⟩) (by assumption) ?_
  · (have a0 := HJ.out; go_simp)
  try simp only [Act.put, List.setIfInBounds_toArray, List.set_cons_zero, List.set_cons_succ]
  refine wpG_take (nx := [17, 8, 3, 4, 5, 7, 7, 8, 16, 10, 11, 12, 15, 14, 15, 16, 17, 18, 19]) (i := 15) (oi := ⟨some 105, Op.slice 58 (Operand.tmp 102) (some (Operand.tmp 104)) none none, 58, _, _, none⟩) (v := .slice B m2 c2) (by kernel_rfl) rfl (by decide) (by kernel_rfl) (by kernel_rfl) (by kernel_rfl) (fun _ _ _ h => h) (Or.inl ⟨by rfl, fun W hW => ?_⟩) (by assumption) ?_
  · go_simp
  try simp only [Act.put, List.setIfInBounds_toArray, List.set_cons_zero, List.set_cons_succ]
  refine wpG_ready (rs := [1]) (by kernel_rfl) (by simp) ?_
  refine AllG.cons (o := ⟨some 91, Op.buildSlice 58 0 #[], 58, _, _, none⟩) rfl (fun KK hKK => ?_) AllG.nil
  go_simp
  obtain ⟨b81, f85⟩ : ∃ b, w0.heap.size = b := ⟨_, rfl⟩
  rw [f85]
  obtain ⟨W80, e84⟩ : ∃ W, World.alloc w0 (.cells #[] 69) = W := ⟨_, rfl⟩
  rw [e84]
  have kk82 : Keeps [] w0 W80 := by rw [← e84]; exact (Keeps.refl [] _).alloc _
  have K83 : Keeps [] w W80 := K0.trans kk82 (by simp)
  have ob86 : W80.ownsRow 0 69 4 (.slice (some ⟨b81, 0, none⟩) 0 0) 0 ([] : List Value) := by rw [← e84, ← f85]; exact own_of_blk (Blk.new _ 69 #[]) (by omega) (by omega) rfl rfl
  have ge87 : ∀ g ∈ fp (.slice (some ⟨b81, 0, none⟩) 0 0), w.heap.size ≤ g := by have := K0.size; intro g hg; have h0 : g = b81 := (by simpa [fp, Value.ownBlock] using hg); omega
  refine hKK.out _ _ (HS.out _ K83) (fun hHeld => ?_)
  clear hKK KK e84 f85
  try simp only [Act.put, List.setIfInBounds_toArray, List.set_cons_zero, List.set_cons_succ]
  refine wpG_ready (rs := [8]) (by kernel_rfl) (by simp) ?_
  refine AllG.cons (o := ⟨some 98, Op.call { callee := Callee.builtin Builtin.append, args := #[Operand.tmp 91, Operand.tmp 97], argTypes := #[58, 58] }, 58, _, _, none⟩) rfl (fun KK hKK => ?_) AllG.nil
  refine step_app (by rfl) (.tmp 91) (.tmp 97) 58 (by rfl) 69 (.agg #[.int .i64 0, .int .i64 0, .int .i64 0, .bool false]) 4 32 Tryz.underlying58 HI.out rfl (by omega) (.slice (some ⟨b81, 0, none⟩) 0 0) 0 (([] : List Value)) ?_ ob86 _ A i c (xs1) ?_ (HR1.out _ K83) H1.out (by unfold maxLen; omega) (by omega) (fun v89 W88 ob90 kk91 f92 => ?_)
  · first | (simp [Act.eval]; done) | (simp [Act.eval, Act.put]; done)
  · first | (simp [Act.eval]; done) | (simp [Act.eval, Act.put]; done)
  have K93 : Keeps [] w W88 := K83.trans kk91 (fun g hg => .inr (ge87 g hg))
  have ge94 : ∀ g ∈ fp v89, w.heap.size ≤ g := ges_app f92 ge87 K83.size
  refine hKK.out _ _ (HS.out _ K93) (fun hHeld => ?_)
  clear hKK KK
  try simp only [Act.put, List.setIfInBounds_toArray, List.set_cons_zero, List.set_cons_succ]
  refine wpG_ready (rs := [16]) (by kernel_rfl) (by simp) ?_
  refine AllG.cons (o := ⟨some 106, Op.call { callee := Callee.builtin Builtin.append, args := #[Operand.tmp 98, Operand.tmp 105], argTypes := #[58, 58] }, 58, _, _, none⟩) rfl (fun KK hKK => ?_) AllG.nil
  refine step_app (by rfl) (.tmp 98) (.tmp 105) 58 (by rfl) 69 (.agg #[.int .i64 0, .int .i64 0, .int .i64 0, .bool false]) 4 32 Tryz.underlying58 HI.out rfl (by omega) v89 (0 + i) ([] ++ xs1) ?_ ob90 _ B m2 c2 (xs2) ?_ (HR2.out _ K93) H2.out (by unfold maxLen; omega) (by omega) (fun v96 W95 ob97 kk98 f99 => ?_)
  · first | (simp [Act.eval]; done) | (simp [Act.eval, Act.put]; done)
  · first | (simp [Act.eval]; done) | (simp [Act.eval, Act.put]; done)
  have K100 : Keeps [] w W95 := K93.trans kk98 (fun g hg => .inr (ge94 g hg))
  have ge101 : ∀ g ∈ fp v96, w.heap.size ≤ g := ges_app f99 ge94 K93.size
  rw [HN3.out] at ob97
  obtain ⟨A102, c103, rfl, -, -, -⟩ := own_shape ob97
  refine hKK.out _ _ (HS.out _ K100) (fun hHeld => ?_)
  clear hKK KK
  try simp only [Act.put, List.setIfInBounds_toArray, List.set_cons_zero, List.set_cons_succ]
  refine wpG_take (nx := [17, 8, 3, 4, 5, 7, 7, 8, 16, 10, 11, 12, 15, 14, 15, 16, 17, 18, 19]) (i := 17) (oi := ⟨some 107, Op.nilCheck (Operand.tmp 90), 0, _, _, none⟩) (v := ?vq104) (by kernel_rfl) rfl (by decide) (by kernel_rfl) (by kernel_rfl) (by kernel_rfl) (fun _ _ _ h => h) (Or.inl ⟨by rfl, fun W hW => ?_⟩) (by assumption) ?_
  rotate_left
  · go_simp
    with_reducible rfl
  try simp only [Act.put, List.setIfInBounds_toArray, List.set_cons_zero, List.set_cons_succ]
  refine wpG_take (nx := [17, 8, 3, 4, 5, 7, 7, 8, 16, 10, 11, 12, 15, 14, 15, 16, 17, 18, 19]) (i := 18) (oi := ⟨some 108, Op.fieldAddr 65 (Operand.tmp 107) 1, 0, _, _, none⟩) (v := ?vq105) (by kernel_rfl) rfl (by decide) (by kernel_rfl) (by kernel_rfl) (by kernel_rfl) (fun _ _ _ h => h) (Or.inl ⟨by rfl, fun W hW => ?_⟩) (by assumption) ?_
  rotate_left
  · go_simp
    with_reducible rfl
  try simp only [Act.put, List.setIfInBounds_toArray, List.set_cons_zero, List.set_cons_succ]
  refine wpG_ready (rs := [19]) (by kernel_rfl) (by simp) ?_
  refine AllG.last (o := ⟨none, Op.store 58 (Operand.tmp 108) (Operand.tmp 106), 0, _, _, none⟩) rfl (fun KK hKK => ?_)
  have hc0 := HS.out _ K100
  have hf0 := HF.out _ K100
  go_simp
  refine hKK.out _ _ ?_
  clear hKK KK hHeld
  try simp only [Act.put, List.setIfInBounds_toArray, List.set_cons_zero, List.set_cons_succ]
  refine wpG_done (by kernel_rfl) ?_ _
  refine NoPanic.normal ?_
  exact hK _ _ _ _ _ _ _ _ _ _ _ _ _ _ _ _ _ _ _ (.slice A102 N3 c103) W95 ob97 K100 ge101
end Go.Proofs.YtcopjjokhjealaaGreat
