/- The texts T14, T15 in one. -/
import Derived.Test.YtbllmpcpfmlemaaGreatT13
import Derived.Test.YtbllmpcpfmlemaaGreatSh
namespace Go.Proofs.YtbllmpcpfmlemaaGreat
open Go.RowKit
theorem info68 : (Tryz.prog.info? 68).map (fun i => (i.zero, i.size, i.bytes)) = some (some (.agg #[.int .i64 0, .int .i64 0, .slice none 0 0, .slice none 0 0, .slice none 0 0]), 5, 88) := by kernel_rfl
theorem run_take69 (A : Option Addr) (n c i : Nat) (hi : i ≤ n) (hc : n ≤ c) (W : World) : (Instr.slice 69 (.slice A n c) none (some (.int .i64 i)) none).run Tryz.prog W = .ok (.slice A i c) W := by
  have hp : (i : Int) ≤ c := by omega
  have h0 : (0 : Int) ≤ i := by omega
  go_simp
theorem run_drop69 (A : Option Addr) (n c i : Nat) (hi : i ≤ n) (W : World) : (Instr.slice 69 (.slice A n c) (some (.int .i64 i)) none none).run Tryz.prog W = .ok (.slice (if c = i then A else A.map (·.add (i * 5))) (n - i) (c - i)) W := by
  have hp : (i : Int) ≤ n := by omega
  have h0 : (0 : Int) ≤ i := by omega
  go_simp
noncomputable def rem0C : Code := ((Tryz.f85.body.bind (theRegion 0)).getD .skip)
set_option maxRecDepth 1000000 in
set_option maxHeartbeats 1600000 in
set_option linter.unusedSimpArgs false in
theorem rem0_any (w : World) (p : Nat) (n i j c m2 c2 N3 : Nat) (A B : Option Addr) (xs1 xs2 : List Value) (K : Exit → Act → World → Prop) (hi : i ≤ n) (hn : n ≤ 1000000) (hm2 : m2 ≤ n) (hN3 : 0 + i + m2 = N3)
    (hS : ∀ W, Keeps [] w W → W.cell? ⟨p, 0, none⟩ = some (.slice A n c)) (hF : ∀ W, Keeps [] w W → W.frozen? ⟨p, 0, none⟩ = false)
    (hs1 : ∀ W, (Instr.slice 69 (.slice A n c) none (some (.int .i64 i)) none).run Tryz.prog W = .ok (.slice A i c) W) (hs2 : ∀ W, (Instr.slice 69 (.slice A n c) (some (.int .i64 j)) none none).run Tryz.prog W = .ok (.slice B m2 c2) W)
    (hr1 : ∀ W, Keeps [] w W → Reads W W.heap.size 5 A i xs1) (hr2 : ∀ W, Keeps [] w W → Reads W W.heap.size 5 B m2 xs2) (h1 : ∀ u ∈ xs1, u.oneCell' = true) (h2 : ∀ u ∈ xs2, u.oneCell' = true)
    (hj : IntKind.i64.wrap ((i : Int) + 1) = (j : Int))
    (u2 u3 u4 u5 u6 u7 u8 u9 u10 u11 u12 u13 u14 u15 u16 u17 u18 u19 u20 u21 u22 : Value)
    (hK : ∀ (v4 v5 v6 v7 v8 v9 v10 v11 v12 v13 v14 v15 v16 v17 v18 v19 v20 v21 v22 : Value) (v3 : Value) (W : World), W.ownsRow 0 68 5 v3 N3 ([] ++ xs1 ++ xs2) → Keeps [] w W → (∀ g ∈ fp v3, w.heap.size ≤ g) → K .normal ⟨#[.pointer (some ⟨p, 0, none⟩), .int .i64 (i : Nat), u2, u3, v4, v5, v6, v7, v8, v9, v10, v11, v12, v13, v14, v15, v16, v17, v18, v19, v20, v21, v22], []⟩ (W.setCell ⟨p, 0, none⟩ v3)) :
    Code.wp Tryz.prog rem0C K ⟨#[.pointer (some ⟨p, 0, none⟩), .int .i64 (i : Nat), u2, u3, u4, u5, u6, u7, u8, u9, u10, u11, u12, u13, u14, u15, u16, u17, u18, u19, u20, u21, u22], []⟩ w := by
  have HS := Lib.hid hS
  have HF := Lib.hid hF
  have HR1 := Lib.hid hr1
  have HR2 := Lib.hid hr2
  have H1 := Lib.hid h1
  have H2 := Lib.hid h2
  have HI := Lib.hid info68
  have HN3 := Lib.hid hN3
  have HJ := Lib.hid hj
  clear hj
  clear hS hF hr1 hr2 h1 h2 hN3
  conv => arg 2; whnf
  try dsimp only at hK ⊢
  refine wp_region_noPanic ?_
  refine wp_region_last (S := fun W => W.cell? ⟨p, 0, none⟩ = some (.slice A n c)) 19 (by kernel_rfl) (HS.out _ ((Keeps.refl [] w).drew)) (fun hHeld => ?_)
  obtain ⟨w0, hw0⟩ : ∃ w0, w.drew = w0 := ⟨_, rfl⟩
  try rw [hw0] at hHeld
  rw [hw0]
  have K0 : Keeps [] w w0 := by rw [← hw0]; exact (Keeps.refl [] w).drew
  clear hw0
  refine wpG_take (nx := [17, 8, 3, 4, 5, 7, 7, 8, 16, 10, 11, 12, 15, 14, 15, 16, 17, 18, 19]) (i := 0) (oi := ⟨some 4, .move (.tmp 0), 26, _, _, none⟩) (v := ?vq1) (by kernel_rfl) rfl (by decide) (by kernel_rfl) (by kernel_rfl) (by kernel_rfl) (fun _ _ _ h => h) (Or.inl ⟨by rfl, fun W hW => ?_⟩) (by assumption) ?_
  rotate_left
  · go_simp
    with_reducible rfl
  try simp only [Act.put, lA, l0, lS]
  refine wpG_take (nx := [17, 8, 3, 4, 5, 7, 7, 8, 16, 10, 11, 12, 15, 14, 15, 16, 17, 18, 19]) (i := 2) (oi := ⟨some 6, .move (.tmp 0), 26, _, _, none⟩) (v := ?vq2) (by kernel_rfl) rfl (by decide) (by kernel_rfl) (by kernel_rfl) (by kernel_rfl) (fun _ _ _ h => h) (Or.inl ⟨by rfl, fun W hW => ?_⟩) (by assumption) ?_
  rotate_left
  · go_simp
    with_reducible rfl
  try simp only [Act.put, lA, l0, lS]
  refine wpG_take (nx := [17, 8, 3, 4, 5, 7, 7, 8, 16, 10, 11, 12, 15, 14, 15, 16, 17, 18, 19]) (i := 3) (oi := ⟨some 7, .nilCheck (.tmp 6), 0, _, _, none⟩) (v := ?vq3) (by kernel_rfl) rfl (by decide) (by kernel_rfl) (by kernel_rfl) (by kernel_rfl) (fun _ _ _ h => h) (Or.inl ⟨by rfl, fun W hW => ?_⟩) (by assumption) ?_
  rotate_left
  · go_simp
    with_reducible rfl
  try simp only [Act.put, lA, l0, lS]
  refine wpG_take (nx := [17, 8, 3, 4, 5, 7, 7, 8, 16, 10, 11, 12, 15, 14, 15, 16, 17, 18, 19]) (i := 4) (oi := ⟨some 8, .fieldAddr 71 (.tmp 7) 0, 0, _, _, none⟩) (v := ?vq4) (by kernel_rfl) rfl (by decide) (by kernel_rfl) (by kernel_rfl) (by kernel_rfl) (fun _ _ _ h => h) (Or.inl ⟨by rfl, fun W hW => ?_⟩) (by assumption) ?_
  rotate_left
  · go_simp
    with_reducible rfl
  try simp only [Act.put, lA, l0, lS]
  refine wpG_take (nx := [17, 8, 3, 4, 5, 7, 7, 8, 16, 10, 11, 12, 15, 14, 15, 16, 17, 18, 19]) (i := 5) (oi := ⟨some 9, .load 69 (.tmp 8), 69, _, _, none⟩) (v := .slice A n c) (by kernel_rfl) rfl (by decide) (by kernel_rfl) (by kernel_rfl) (by kernel_rfl) (fun _ _ _ h => h) (Or.inl ⟨by rfl, fun W hW => ?_⟩) (by assumption) ?_
  · go_simp
  try simp only [Act.put, lA, l0, lS]
  refine wpG_take (nx := [17, 8, 3, 4, 5, 7, 7, 8, 16, 10, 11, 12, 15, 14, 15, 16, 17, 18, 19]) (i := 6) (oi := ⟨some 10, .move (.tmp 1), 3, _, _, none⟩) (v := ?vq5) (by kernel_rfl) rfl (by decide) (by kernel_rfl) (by kernel_rfl) (by kernel_rfl) (fun _ _ _ h => h) (Or.inl ⟨by rfl, fun W hW => ?_⟩) (by assumption) ?_
  rotate_left
  · go_simp
    with_reducible rfl
  try simp only [Act.put, lA, l0, lS]
  refine wpG_take (nx := [17, 8, 3, 4, 5, 7, 7, 8, 16, 10, 11, 12, 15, 14, 15, 16, 17, 18, 19]) (i := 7) (oi := ⟨some 11, .slice 69 (.tmp 9) none (some (.tmp 10)) none, 69, _, _, none⟩) (v := .slice A i c) (by kernel_rfl) rfl (by decide) (by kernel_rfl) (by kernel_rfl) (by kernel_rfl) (fun _ _ _ h => h) (Or.inl ⟨by rfl, fun W hW => ?_⟩) (by assumption) ?_
  · go_simp
  try simp only [Act.put, lA, l0, lS]
  refine wpG_take (nx := [17, 8, 3, 4, 5, 7, 7, 8, 16, 10, 11, 12, 15, 14, 15, 16, 17, 18, 19]) (i := 9) (oi := ⟨some 13, .move (.tmp 0), 26, _, _, none⟩) (v := ?vq6) (by kernel_rfl) rfl (by decide) (by kernel_rfl) (by kernel_rfl) (by kernel_rfl) (fun _ _ _ h => h) (Or.inl ⟨by rfl, fun W hW => ?_⟩) (by assumption) ?_
  rotate_left
  · go_simp
    with_reducible rfl
  try simp only [Act.put, lA, l0, lS]
  refine wpG_take (nx := [17, 8, 3, 4, 5, 7, 7, 8, 16, 10, 11, 12, 15, 14, 15, 16, 17, 18, 19]) (i := 10) (oi := ⟨some 14, .nilCheck (.tmp 13), 0, _, _, none⟩) (v := ?vq7) (by kernel_rfl) rfl (by decide) (by kernel_rfl) (by kernel_rfl) (by kernel_rfl) (fun _ _ _ h => h) (Or.inl ⟨by rfl, fun W hW => ?_⟩) (by assumption) ?_
  rotate_left
  · go_simp
    with_reducible rfl
  try simp only [Act.put, lA, l0, lS]
  refine wpG_take (nx := [17, 8, 3, 4, 5, 7, 7, 8, 16, 10, 11, 12, 15, 14, 15, 16, 17, 18, 19]) (i := 11) (oi := ⟨some 15, .fieldAddr 71 (.tmp 14) 0, 0, _, _, none⟩) (v := ?vq8) (by kernel_rfl) rfl (by decide) (by kernel_rfl) (by kernel_rfl) (by kernel_rfl) (fun _ _ _ h => h) (Or.inl ⟨by rfl, fun W hW => ?_⟩) (by assumption) ?_
  rotate_left
  · go_simp
    with_reducible rfl
  try simp only [Act.put, lA, l0, lS]
  refine wpG_take (nx := [17, 8, 3, 4, 5, 7, 7, 8, 16, 10, 11, 12, 15, 14, 15, 16, 17, 18, 19]) (i := 12) (oi := ⟨some 16, .load 69 (.tmp 15), 69, _, _, none⟩) (v := .slice A n c) (by kernel_rfl) rfl (by decide) (by kernel_rfl) (by kernel_rfl) (by kernel_rfl) (fun _ _ _ h => h) (Or.inl ⟨by rfl, fun W hW => ?_⟩) (by assumption) ?_
  · go_simp
  try simp only [Act.put, lA, l0, lS]
  refine wpG_take (nx := [17, 8, 3, 4, 5, 7, 7, 8, 16, 10, 11, 12, 15, 14, 15, 16, 17, 18, 19]) (i := 13) (oi := ⟨some 17, .move (.tmp 1), 3, _, _, none⟩) (v := ?vq9) (by kernel_rfl) rfl (by decide) (by kernel_rfl) (by kernel_rfl) (by kernel_rfl) (fun _ _ _ h => h) (Or.inl ⟨by rfl, fun W hW => ?_⟩) (by assumption) ?_
  rotate_left
  · go_simp
    with_reducible rfl
  try simp only [Act.put, lA, l0, lS]
  refine wpG_take (nx := [17, 8, 3, 4, 5, 7, 7, 8, 16, 10, 11, 12, 15, 14, 15, 16, 17, 18, 19]) (i := 14) (oi := ⟨some 18, .binOp .add 3 (.tmp 17) (.const (Value.int IntKind.i64 1)) 3, 3, _, _, none⟩) (v := .int .i64 j) (by kernel_rfl) rfl (by decide) (by kernel_rfl) (by kernel_rfl) (by kernel_rfl) (fun _ _ _ h => h) (Or.inl ⟨by rfl, fun W hW => ?_⟩) (by assumption) ?_
  · (have a0 := HJ.out; go_simp)
  try simp only [Act.put, lA, l0, lS]
  refine wpG_take (nx := [17, 8, 3, 4, 5, 7, 7, 8, 16, 10, 11, 12, 15, 14, 15, 16, 17, 18, 19]) (i := 15) (oi := ⟨some 19, .slice 69 (.tmp 16) (some (.tmp 18)) none none, 69, _, _, none⟩) (v := .slice B m2 c2) (by kernel_rfl) rfl (by decide) (by kernel_rfl) (by kernel_rfl) (by kernel_rfl) (fun _ _ _ h => h) (Or.inl ⟨by rfl, fun W hW => ?_⟩) (by assumption) ?_
  · go_simp
  try simp only [Act.put, lA, l0, lS]
  refine wpG_ready (rs := [1]) (by kernel_rfl) (by simp) ?_
  refine AllG.cons (o := ⟨some 5, .buildSlice 69 0 #[], 69, _, _, none⟩) rfl (fun KK hKK => ?_) AllG.nil
  go_simp
  obtain ⟨b11, f15⟩ : ∃ b, w0.heap.size = b := ⟨_, rfl⟩
  rw [f15]
  obtain ⟨W10, e14⟩ : ∃ W, World.alloc w0 (.cells #[] 68) = W := ⟨_, rfl⟩
  rw [e14]
  have kk12 : Keeps [] w0 W10 := by rw [← e14]; exact (Keeps.refl [] _).alloc _
  have K13 : Keeps [] w W10 := K0.trans kk12 (by simp)
  have ob16 : W10.ownsRow 0 68 5 (.slice (some ⟨b11, 0, none⟩) 0 0) 0 ([] : List Value) := by rw [← e14, ← f15]; exact own_of_blk (Blk.new _ 68 #[]) (by omega) (by omega) rfl rfl
  have ge17 : ∀ g ∈ fp (.slice (some ⟨b11, 0, none⟩) 0 0), w.heap.size ≤ g := by have := K0.size; intro g hg; have h0 : g = b11 := (by simpa [fp, Value.ownBlock] using hg); omega
  refine hKK.out _ _ (HS.out _ K13) (fun hHeld => ?_)
  clear hKK KK e14 f15
  try simp only [Act.put, lA, l0, lS]
  refine wpG_ready (rs := [8]) (by kernel_rfl) (by simp) ?_
  refine AllG.cons (o := ⟨some 12, .call { callee := .builtin .append, args := #[.tmp 5, .tmp 11], argTypes := #[69, 69] }, 69, _, _, none⟩) rfl (fun KK hKK => ?_) AllG.nil
  refine step_app (by rfl) (.tmp 5) (.tmp 11) 69 (by rfl) 68 (.agg #[.int .i64 0, .int .i64 0, .slice none 0 0, .slice none 0 0, .slice none 0 0]) 5 88 Tryz.underlying69 HI.out rfl (by omega) (.slice (some ⟨b11, 0, none⟩) 0 0) 0 (([] : List Value)) ?_ ob16 _ A i c (xs1) ?_ (HR1.out _ K13) H1.out (by unfold maxLen; omega) (by omega) (fun v19 W18 ob20 kk21 f22 => ?_)
  · first | (simp [Act.eval]; done) | (simp [Act.eval, Act.put]; done)
  · first | (simp [Act.eval]; done) | (simp [Act.eval, Act.put]; done)
  have K23 : Keeps [] w W18 := K13.trans kk21 (fun g hg => .inr (ge17 g hg))
  have ge24 : ∀ g ∈ fp v19, w.heap.size ≤ g := ges_app f22 ge17 K13.size
  refine hKK.out _ _ (HS.out _ K23) (fun hHeld => ?_)
  clear hKK KK
  try simp only [Act.put, lA, l0, lS]
  refine wpG_ready (rs := [16]) (by kernel_rfl) (by simp) ?_
  refine AllG.cons (o := ⟨some 20, .call { callee := .builtin .append, args := #[.tmp 12, .tmp 19], argTypes := #[69, 69] }, 69, _, _, none⟩) rfl (fun KK hKK => ?_) AllG.nil
  refine step_app (by rfl) (.tmp 12) (.tmp 19) 69 (by rfl) 68 (.agg #[.int .i64 0, .int .i64 0, .slice none 0 0, .slice none 0 0, .slice none 0 0]) 5 88 Tryz.underlying69 HI.out rfl (by omega) v19 (0 + i) ([] ++ xs1) ?_ ob20 _ B m2 c2 (xs2) ?_ (HR2.out _ K23) H2.out (by unfold maxLen; omega) (by omega) (fun v26 W25 ob27 kk28 f29 => ?_)
  · first | (simp [Act.eval]; done) | (simp [Act.eval, Act.put]; done)
  · first | (simp [Act.eval]; done) | (simp [Act.eval, Act.put]; done)
  have K30 : Keeps [] w W25 := K23.trans kk28 (fun g hg => .inr (ge24 g hg))
  have ge31 : ∀ g ∈ fp v26, w.heap.size ≤ g := ges_app f29 ge24 K23.size
  rw [HN3.out] at ob27
  obtain ⟨A32, c33, rfl, -, -, -⟩ := own_shape ob27
  refine hKK.out _ _ (HS.out _ K30) (fun hHeld => ?_)
  clear hKK KK
  try simp only [Act.put, lA, l0, lS]
  refine wpG_take (nx := [17, 8, 3, 4, 5, 7, 7, 8, 16, 10, 11, 12, 15, 14, 15, 16, 17, 18, 19]) (i := 17) (oi := ⟨some 21, .nilCheck (.tmp 4), 0, _, _, none⟩) (v := ?vq34) (by kernel_rfl) rfl (by decide) (by kernel_rfl) (by kernel_rfl) (by kernel_rfl) (fun _ _ _ h => h) (Or.inl ⟨by rfl, fun W hW => ?_⟩) (by assumption) ?_
  rotate_left
  · go_simp
    with_reducible rfl
  try simp only [Act.put, lA, l0, lS]
  refine wpG_take (nx := [17, 8, 3, 4, 5, 7, 7, 8, 16, 10, 11, 12, 15, 14, 15, 16, 17, 18, 19]) (i := 18) (oi := ⟨some 22, .fieldAddr 71 (.tmp 21) 0, 0, _, _, none⟩) (v := ?vq35) (by kernel_rfl) rfl (by decide) (by kernel_rfl) (by kernel_rfl) (by kernel_rfl) (fun _ _ _ h => h) (Or.inl ⟨by rfl, fun W hW => ?_⟩) (by assumption) ?_
  rotate_left
  · go_simp
    with_reducible rfl
  try simp only [Act.put, lA, l0, lS]
  refine wpG_ready (rs := [19]) (by kernel_rfl) (by simp) ?_
  refine AllG.last (o := ⟨none, .store 69 (.tmp 22) (.tmp 20), 0, _, _, none⟩) rfl (fun KK hKK => ?_)
  have hc0 := HS.out _ K30
  have hf0 := HF.out _ K30
  go_simp
  refine hKK.out _ _ ?_
  clear hKK KK hHeld
  try simp only [Act.put, lA, l0, lS]
  refine wpG_done (by kernel_rfl) ?_ _
  refine NoPanic.normal ?_
  exact hK _ _ _ _ _ _ _ _ _ _ _ _ _ _ _ _ _ _ _ (.slice A32 N3 c33) W25 ob27 K30 ge31
/-- What an operation that makes the list anew does. -/
def RTurnD (w w' : World) (d : Nat) (F G : List Nat) (C : St) : Prop :=
  ∃ F' G', Rf w' d F' G' C ∧ (∀ g ∈ F', g ∈ F ∨ w.heap.size ≤ g) ∧ (∀ g ∈ G', g ∈ G ∨ w.heap.size ≤ g) ∧ Keeps [d] w w'
theorem Rf.dF {w : World} {d : Nat} {F G : List Nat} {C : St} (h : Rf w d F G C) : d ∈ F := by obtain ⟨_, _, _, h⟩ := h; exact h.dF
theorem RTurnD.turn {w w' : World} {d : Nat} {F G : List Nat} {C : St} (h : RTurnD w w' d F G C) (hd : d ∈ F) : RTurn w w' d F G C := by
  obtain ⟨F', G', h1, h2, h3, h4⟩ := h
  exact ⟨F', G', h1, h2, h3, h4.mono (by simpa using hd)⟩
theorem RTurnD.same {w w' : World} {d : Nat} {F G : List Nat} {C : St} (h : Rf w d F G C) (hk : Keeps [] w w') : RTurnD w w' d F G C :=
  ⟨F, G, h.keep0 hk, fun _ h => .inl h, fun _ h => .inl h, hk.mono (by simp)⟩
/-- The list made anew. -/
theorem RfM.turnL {w w' : World} {d : Nat} {A A' : Option Addr} {cap cap' : Nat} {ms : Int → Mr} {F G : List Nat} {C : St} (h : RfM w d A cap ms F G C) (hk : Keeps [d] w w') (ms' : Int → Mr) (C' : St) (hb : Blk w' d 71 #[.slice A' C'.length cap'])
    (hrow : w'.ownsRow 0 68 5 (.slice A' C'.length cap') C'.length (rw (oc ms') C'.reverse)) (hf : ∀ g ∈ fp (.slice A' C'.length cap'), w.heap.size ≤ g) (hone : ∀ x ∈ C', OneV w' (ms' x.id) x G) : RTurnD w w' d F G C' := by
  have hs := hk.size
  refine ⟨fp (.slice A' C'.length cap') ++ F, G, ⟨A', cap', ms', hb, hrow, hone, List.mem_append_right _ h.dF, fun g hg => List.mem_append_left _ hg, fun g hg => ?_, fun g hg => Nat.lt_of_lt_of_le (h.ltG g hg) hs, fun g hg h' => ?_⟩, fun g hg => ?_, fun _ h => .inl h, hk⟩
  · rcases List.mem_append.1 hg with h1 | h1
    · exact own_lt hrow h1
    · exact Nat.lt_of_lt_of_le (h.ltF g h1) hs
  · rcases List.mem_append.1 h' with h1 | h1
    · have := hf g h1; have := h.ltG g hg; omega
    · exact h.off g hg h1
  · rcases List.mem_append.1 hg with h1 | h1
    · exact .inr (hf g h1)
    · exact .inl h1
theorem RfM.farD {w w' : World} {d : Nat} {A : Option Addr} {cap : Nat} {ms : Int → Mr} {F G : List Nat} {C : St} (h : RfM w d A cap ms F G C) (hk : Keeps [d] w w') {x : One} (hx : x ∈ C) : OneV w' (ms x.id) x G :=
  (h.one x hx).keep hk (fun g hg h' => by rw [List.mem_singleton.1 h'] at hg; exact h.off d hg h.dF)
theorem drop_reverse {C : St} (h : Row0 C) {k : Nat} (hk : k < C.reverse.length) {x : One} (hx : C.reverse[k] = x) : (dropP C x.id).reverse = C.reverse.take k ++ C.reverse.drop (k + 1) := by
  have h1 : (dropP C x.id).reverse = C.reverse.filter (fun y => decide (y.id ≠ x.id)) := by unfold dropP; rw [List.filter_reverse]
  rw [h1]
  conv => lhs; rw [← List.take_append_drop k C.reverse, List.drop_eq_getElem_cons hk]
  rw [List.filter_append, List.filter_cons_of_neg (by rw [hx]; simp)]
  congr 1
  · rw [List.filter_eq_self]
    intro y hy
    obtain ⟨j, hj, rfl⟩ := List.mem_iff_getElem.1 hy
    rw [List.length_take] at hj
    rw [List.getElem_take, decide_eq_true_eq]
    intro e
    have := h.inj (j := j) (k := k) (by omega) hk (by rw [e, hx])
    omega
  · rw [List.filter_eq_self]
    intro y hy
    obtain ⟨j, hj, rfl⟩ := List.mem_iff_getElem.1 hy
    rw [List.length_drop] at hj
    rw [List.getElem_drop, decide_eq_true_eq]
    intro e
    have := h.inj (j := k + 1 + j) (k := k) (by omega) hk (by rw [e, hx])
    omega
theorem oc_one {w : World} {ms : Int → Mr} {G : List Nat} {L : List One} (h : ∀ x ∈ L, OneV w (ms x.id) x G) : ∀ u ∈ rw (oc ms) L, u.oneCell' = true := by
  intro u hu
  unfold rw at hu
  obtain ⟨x, hx, hu⟩ := List.mem_flatMap.1 hu
  have ho := h x hx
  obtain ⟨A1, p1, h1, -, -, -⟩ := own_shape ho.wr
  obtain ⟨xs, hxs, -, -⟩ := ho.rd
  obtain ⟨A2, p2, h2, -, -, -⟩ := own_shape hxs
  obtain ⟨A3, p3, h3, -, -, -⟩ := own_shape ho.lg
  unfold oc at hu
  rw [h1, h2, h3] at hu
  simp only [List.mem_cons, List.not_mem_nil, or_false] at hu
  rcases hu with rfl | rfl | rfl | rfl | rfl <;> rfl
set_option maxRecDepth 100000 in
set_option maxHeartbeats 3200000 in
theorem rRemove_any {w : World} {d : Nat} {F G : List Nat} {C : St} (h : Rf w d F G C) (hR0 : Row0 C) (hl : C.length ≤ 1000000) {k : Nat} (hk : k < C.reverse.length) {x : One} (hx : C.reverse[k] = x) :
    Calls Tryz.prog 85 #[.pointer (some ⟨d, 0, none⟩), .int .i64 k] w fun e w' => e = .returned (.tuple #[]) ∧ RTurnD w w' d F G (dropP C x.id) := by
  obtain ⟨A, cap, ms, h⟩ := h
  have hb := h.b
  have hkC : k < C.length := by rw [List.length_reverse] at hk; exact hk
  have hlen : (dropP C x.id).length = 0 + k + (C.length - (k + 1)) := by
    rw [← List.length_reverse, drop_reverse hR0 hk hx]
    simp
    omega
  have hcap : C.length ≤ cap := by
    obtain ⟨_, _, hv, h1, -, -⟩ := own_shape h.row
    injection hv with e1 e2 e3
    omega
  have HEND : Hid (∀ W v3 (W' : World), W.ownsRow 0 68 5 v3 (0 + k + (C.length - (k + 1))) ([] ++ rw (oc ms) (C.reverse.take k) ++ rw (oc ms) (C.reverse.drop (k + 1))) → Keeps [] w W → (∀ g ∈ fp v3, w.heap.size ≤ g) → W' = W.setCell ⟨d, 0, none⟩ v3 → RTurnD w W' d F G (dropP C x.id)) := Lib.hid (fun W v3 W' ho hkW hf hW' => by
    obtain ⟨A', c', rfl, -, -, -⟩ := own_shape ho
    have hdW := hb.keep hkW (by simp)
    have hoff := own_blk_off ho hdW (by decide)
    have kd : Keeps [d] w W' := by rw [hW']; exact (hkW.mono (by simp)).setCell (by simp) _
    refine h.turnL kd ms (dropP C x.id) (A' := A') (cap' := c') ?_ ?_ (by rw [hlen]; exact hf) (fun y hy => h.farD kd (List.mem_filter.1 hy).1)
    · rw [hW', hlen]; exact hdW.set_ 0 _
    · rw [hlen, drop_reverse hR0 hk hx, rw_append, hW']
      have := own_far ho (p := ⟨d, 0, none⟩) hoff (.slice A' (0 + k + (C.length - (k + 1))) c')
      simpa using this)
  have hone := oc_one (w := w) (ms := ms) (G := G) (L := C.reverse) (fun y hy => h.one y (List.mem_reverse.1 hy))
  have H1 : Hid (∀ u ∈ rw (oc ms) (C.reverse.take k), u.oneCell' = true) := Lib.hid (oc_one (w := w) (G := G) (fun y hy => h.one y (List.mem_reverse.1 (List.mem_of_mem_take hy))))
  have H2 : Hid (∀ u ∈ rw (oc ms) (C.reverse.drop (k + 1)), u.oneCell' = true) := Lib.hid (oc_one (w := w) (G := G) (fun y hy => h.one y (List.mem_reverse.1 (List.mem_of_mem_drop hy))))
  have HRR : Hid (∀ W, Keeps [] w W → Reads W W.heap.size 5 A C.length (rw (oc ms) C.reverse)) := Lib.hid (fun W hkW => reads_own (own_keep h.row hkW (by simp)))
  have HB := Lib.hid hb
  have hs1 := run_take69 A C.length cap k (by omega) hcap
  have hs2 := run_drop69 A C.length cap (k + 1) (by omega)
  have HRD1 : Hid (∀ W, Keeps [] w W → Reads W W.heap.size 5 A k (rw (oc ms) (C.reverse.take k))) := Lib.hid (fun W hkW => by
    have h1 := (HRR.out W hkW).take (k := k) (by omega)
    rw [rw_take (oc_len ms)] at h1
    exact h1)
  have HRD2 : Hid (∀ W, Keeps [] w W → Reads W W.heap.size 5 (if cap = k + 1 then A else A.map (·.add ((k + 1) * 5))) (C.length - (k + 1)) (rw (oc ms) (C.reverse.drop (k + 1)))) := Lib.hid (fun W hkW => by
    have h1 := (HRR.out W hkW).cut (k := k + 1) (cap := cap) (by omega) hcap
    rw [rw_drop (oc_len ms)] at h1
    exact h1)
  clear h hR0 hb hone hlen hcap HRR hk hx
  go_enter Tryz.func85, Tryz.ntmps85
  go_upto_region 0 with fail
  refine rem0_any w d C.length k (k + 1) cap (C.length - (k + 1)) (cap - (k + 1)) (0 + k + (C.length - (k + 1))) A _ (rw (oc ms) (C.reverse.take k)) (rw (oc ms) (C.reverse.drop (k + 1))) _ (by omega) hl (by omega) rfl ?_ ?_ hs1 hs2 HRD1.out HRD2.out H1.out H2.out ?_ _ _ _ _ _ _ _ _ _ _ _ _ _ _ _ _ _ _ _ _ _ ?_
  · intro W hkW
    exact (HB.out.keep hkW (by simp)).cell 0
  · intro W hkW
    exact (HB.out.keep hkW (by simp)).frozen 0
  · exact (IntWalk.i64_in _ (by omega)).trans (by omega)
  intro v4 v5 v6 v7 v8 v9 v10 v11 v12 v13 v14 v15 v16 v17 v18 v19 v20 v21 v22 v3 W ho hkW hf
  have HT := Lib.hid (HEND.out W v3 _ ho hkW hf rfl)
  clear ho hkW hf HEND HRD1 HRD2 H1 H2 HB
  go_wp2_with fail
  go_end0
  exact ⟨rfl, HT.out⟩
set_option maxRecDepth 100000 in
set_option maxHeartbeats 3200000 in
theorem rBegin_any {w : World} {d : Nat} {F G : List Nat} {C : St} (h : Rf w d F G C) (hl : C.length ≤ 1000000) (i p : Int) :
    Calls Tryz.prog 49 #[.pointer (some ⟨d, 0, none⟩), .int .i64 i, .int .i64 p] w fun e w' => e = .returned (.int .i64 (beginP C i p).1) ∧ RTurnD w w' d F G (beginP C i p).2 := by
  have HS := Lib.hid (RTurnD.same h (Keeps.refl [] w))
  by_cases hi : i < 1
  · have e0 : beginP C i p = (1, C) := by unfold beginP; rw [if_pos hi]
    rw [e0]
    clear e0 h
    go_enter Tryz.func49, Tryz.ntmps49
    go_wp2_with fail
    go_ret
    exact ⟨rfl, HS.out⟩
  have CI := Lib.hid (place_any h hl i)
  have CPP := Lib.hid (place_any h hl p)
  have hrange : ∀ j, has C j = true → 0 ≤ plc C j := fun j hj => by
    rcases fi_range (fun x : One => decide (x.id = j)) C.reverse with h1 | h1
    · exfalso
      obtain ⟨x, hx, e⟩ := has_iff.1 hj
      obtain ⟨q, hq, e2⟩ := List.mem_iff_getElem.1 (List.mem_reverse.2 hx)
      unfold fi at h1
      cases hf : C.reverse.findIdx? (fun x => decide (x.id = j)) with
      | none =>
        rw [List.findIdx?_eq_none_iff] at hf
        have := hf x (List.mem_reverse.2 hx)
        simp [e] at this
      | some q => rw [hf] at h1; simp at h1
    · exact h1.1
  cases hh : has C i with
  | true =>
    have e0 : beginP C i p = (5, C) := by unfold beginP; rw [if_neg hi, if_pos hh]
    rw [e0]
    have hpi := hrange i hh
    obtain ⟨q, hq⟩ : ∃ q, plc C i = q := ⟨_, rfl⟩
    rw [hq] at CI hpi
    clear e0 h hrange hh hq CPP
    go_enter Tryz.func49, Tryz.ntmps49
    go_wp2_with fail
    refine CI.out.mono ?_
    rintro e w1 ⟨rfl, rfl⟩
    go_wp2_with fail
    go_ret
    exact ⟨rfl, HS.out⟩
  | false =>
    rw [plc_no hh] at CI
    cases hp : has C p with
    | false =>
      have e0 : beginP C i p = (4, C) := by unfold beginP; rw [if_neg hi, if_neg (by rw [hh]; simp), if_neg (by rw [hp]; simp)]
      rw [e0]
      rw [plc_no hp] at CPP
      clear e0 h hrange hh hp
      go_enter Tryz.func49, Tryz.ntmps49
      go_wp2_with fail
      refine CI.out.mono ?_
      rintro e w1 ⟨rfl, rfl⟩
      go_wp2_with fail
      refine CPP.out.mono ?_
      rintro e w2 ⟨rfl, rfl⟩
      go_wp2_with fail
      go_ret
      exact ⟨rfl, HS.out⟩
    | true =>
      have e0 : beginP C i p = (0, ⟨i, p, [], [], []⟩ :: C) := by unfold beginP; rw [if_neg hi, if_neg (by rw [hh]; simp), if_pos hp]
      rw [e0]
      have hpi := hrange p hp
      obtain ⟨q, hq⟩ : ∃ q, plc C p = q := ⟨_, rfl⟩
      rw [hq] at CPP hpi
      obtain ⟨A, cap, ms, h⟩ := h
      have HB := Lib.hid h.b
      have H1 := Lib.hid (oc_one (w := w) (ms := ms) (G := G) (L := C.reverse) (fun y hy => h.one y (List.mem_reverse.1 hy)))
      have HROW := Lib.hid h.row
      have hnx : ∀ x ∈ C, x.id ≠ i := fun x hx e => by rw [has_iff.2 ⟨x, hx, e⟩] at hh; cases hh
      have HEND : Hid (∀ W (A' : Option Addr) (c' : Nat) (W' : World), W.ownsRow 0 68 5 (.slice A' (C.length + 1) c') (C.length + 1) (rw (oc ms) C.reverse ++ [.int .i64 i, .int .i64 p, .slice none 0 0, .slice none 0 0, .slice none 0 0]) → Keeps [] w W → (∀ g ∈ fp (.slice A' (C.length + 1) c'), w.heap.size ≤ g) → W' = W.setCell ⟨d, 0, none⟩ (.slice A' (C.length + 1) c') → RTurnD w W' d F G (⟨i, p, [], [], []⟩ :: C)) := Lib.hid (fun W A' c' W' ho hkW hf hW' => by
        have hdW := h.b.keep hkW (by simp)
        have hoff := own_blk_off ho hdW (by decide)
        have kd : Keeps [d] w W' := by rw [hW']; exact (hkW.mono (by simp)).setCell (by simp) _
        refine h.turnL kd (fun j => if j = i then (.slice none 0 0, .slice none 0 0, .slice none 0 0) else ms j) (⟨i, p, [], [], []⟩ :: C) (A' := A') (cap' := c') ?_ ?_ hf (fun y hy => ?_)
        · rw [hW']; exact hdW.set_ 0 _
        · rw [List.reverse_cons, rw_append, hW']
          have e1 : rw (oc fun j => if j = i then (.slice none 0 0, .slice none 0 0, .slice none 0 0) else ms j) C.reverse = rw (oc ms) C.reverse := rw_congr1 (fun x hx => by
            unfold oc
            dsimp only
            rw [if_neg (hnx x (List.mem_reverse.1 hx))])
          have e2 : rw (oc fun j => if j = i then (.slice none 0 0, .slice none 0 0, .slice none 0 0) else ms j) [(⟨i, p, [], [], []⟩ : One)] = [.int .i64 i, .int .i64 p, .slice none 0 0, .slice none 0 0, .slice none 0 0] := by simp [rw, oc]
          rw [e1, e2]
          exact own_far ho (p := ⟨d, 0, none⟩) hoff _
        · rcases List.mem_cons.1 hy with rfl | hy
          · dsimp only
            rw [if_pos rfl]
            exact ⟨World.ownsRow_nil _ _ _ _, ⟨[], World.ownsRow_nil _ _ _ _, by simp, fun k hk => absurd hk (by simp)⟩, World.ownsRow_nil _ _ _ _, by simp, by simp⟩
          · rw [if_neg (hnx y hy)]
            exact h.farD kd hy)
      obtain ⟨n, hn⟩ : ∃ n, C.length = n := ⟨_, rfl⟩
      rw [hn] at HB HROW HEND hl
      have f0 : w.cell? ⟨d, 0, none⟩ = some (.slice A n cap) := HB.out.cell 0
      obtain ⟨xs, hxs⟩ : ∃ xs, rw (oc ms) C.reverse = xs := ⟨_, rfl⟩
      rw [hxs] at H1 HROW HEND
      obtain ⟨E, hE⟩ : ∃ E, (⟨i, p, [], [], []⟩ : One) :: C = E := ⟨_, rfl⟩
      rw [hE] at HEND ⊢
      clear e0 h hrange hh hp hq hnx hn hxs hE
      go_enter Tryz.func49, Tryz.ntmps49
      go_wp2_with fail
      refine CI.out.mono ?_
      rintro e w1 ⟨rfl, rfl⟩
      go_wp2_with fail
      refine CPP.out.mono ?_
      rintro e w2 ⟨rfl, rfl⟩
      have xa : (w2.alloc (.cells #[] 68)).cell? ⟨d, 0, none⟩ = some (.slice A n cap) := (HB.out.alloc (.cells #[] 68)).cell 0
      have O0 : Hid ((w2.alloc (.cells #[] 68)).ownsRow 0 68 5 (.slice (some ⟨w2.heap.size, 0, none⟩) 0 0) 0 []) := Lib.hid (own_of_blk (Blk.new w2 68 #[]) (by omega) (by omega) rfl rfl)
      have KA : Hid (Keeps [] w2 (w2.alloc (.cells #[] 68))) := Lib.hid ((Keeps.refl _ _).alloc _)
      go_wp2_with (at_builtin; refine wpList_app _ rfl (.tmp 18) (.tmp 22) _ rfl 68 (.agg #[.int .i64 0, .int .i64 0, .slice none 0 0, .slice none 0 0, .slice none 0 0]) 5 88 Tryz.underlying69 info68 rfl (by omega) (.slice (some ⟨w2.heap.size, 0, none⟩) 0 0) 0 [] rfl O0.out _ _ _ _ xs rfl (reads_own (own_keep HROW.out KA.out (by simp))) H1.out (by unfold maxLen; omega) (by omega) ?_)
      intro v3 w3 o3 k3 f3
      have O3 := Lib.hid o3
      have K3 : Hid (Keeps [] w2 w3) := Lib.hid (KA.out.trans k3 (fun g hg => .inr (by have h1 : g = w2.heap.size := (by simpa [fp, Value.ownBlock] using hg); omega)))
      have F3 : Hid (∀ g ∈ fp v3, w2.heap.size ≤ g) := Lib.hid (fun g hg => by
        rcases f3 g hg with h2 | h2
        · have : g = w2.heap.size := by simpa [fp, Value.ownBlock] using h2
          omega
        · omega)
      clear o3 k3 f3 O0 KA xa f0
      obtain ⟨A3, c3, hv3, -, -, -⟩ := own_shape O3.out
      subst hv3
      have O4 := Lib.hid (own_keep O3.out ((Keeps.refl [] w3).alloc (.cells #[.int .i64 i, .int .i64 p, .slice none 0 0, .slice none 0 0, .slice none 0 0] 68)) (by simp))
      have RB := Lib.hid (reads_blk (Blk.new w3 68 #[.int .i64 i, .int .i64 p, .slice none 0 0, .slice none 0 0, .slice none 0 0]) (xs := [.int .i64 i, .int .i64 p, .slice none 0 0, .slice none 0 0, .slice none 0 0]) (size := 5) rfl rfl)
      go_wp2_with (at_builtin; refine wpList_app _ rfl (.tmp 23) (.tmp 27) _ rfl 68 (.agg #[.int .i64 0, .int .i64 0, .slice none 0 0, .slice none 0 0, .slice none 0 0]) 5 88 Tryz.underlying69 info68 rfl (by omega) (.slice A3 n c3) n xs rfl O4.out _ _ _ _ _ rfl RB.out (by simp [Value.oneCell']) (by unfold maxLen; omega) (by omega) ?_)
      intro v5 w5 o5 k5 f5
      have K5 : Hid (Keeps [] w2 w5) := Lib.hid ((K3.out.alloc _).trans k5 (fun g hg => .inr (F3.out g hg)))
      have F5 : Hid (∀ g ∈ fp v5, w2.heap.size ≤ g) := Lib.hid (fun g hg => (f5 g hg).elim (F3.out g) (fun h => by have := K3.out.size; omega))
      have O5 := Lib.hid o5
      clear o5 k5 f5 O3 O4 RB
      obtain ⟨A5, c5, hv5, -, -, -⟩ := own_shape O5.out
      subst hv5
      have x5 : w5.cell? ⟨d, 0, none⟩ = some (.slice A n cap) := (HB.out.keep K5.out (by simp)).cell 0
      have y5 : w5.frozen? ⟨d, 0, none⟩ = false := (HB.out.keep K5.out (by simp)).frozen 0
      have HT := Lib.hid (HEND.out w5 A5 c5 _ O5.out K5.out F5.out rfl)
      clear HEND
      go_wp2_with fail
      go_ret
      exact ⟨rfl, HT.out⟩
end Go.Proofs.YtbllmpcpfmlemaaGreat
namespace Go.Proofs.YtbllmpcpfmlemaaGreat
open Go.RowKit
/-- Without those that Z names. -/
def notZ (Z : Int → Bool) (T : St) : St := T.filter fun x => !Z x.id
theorem Row0.filter {C : St} (h : Row0 C) {p : One → Bool} (hz : ∀ x ∈ C, x.id = 0 → p x = true) : Row0 (C.filter p) := by
  refine ⟨h.nd.sublist (List.filter_sublist.map _), ?_⟩
  obtain ⟨N, z, rfl, e⟩ := h.z
  refine ⟨N.filter p, z, ?_, e⟩
  rw [List.filter_append, List.filter_cons_of_pos (hz z (by simp) e)]
  rfl
theorem row0_notZ {T : St} (hT : Tree T) {Z : Int → Bool} (h0 : Z 0 = false) : Row0 (notZ Z T) := hT.row0.filter (fun x _ e => by rw [e, h0]; rfl)
theorem kid_of {T : St} (hT : Tree T) {y : One} (hy : y ∈ T) (i : Int) : isKid T i y.id = (decide (y.id ≠ 0) && decide (y.par = i)) := by
  unfold isKid
  rw [hT.find hy]
theorem below_up {T : St} (hT : Tree T) {i k : Int} (h0 : i ≠ 0) (hk : isKid T i k = true) {x : One} (hx : x ∈ T) (hb : below T k x.id = true) : below T i x.id = true :=
  (below_kids hT h0 hx).2 (.inr ⟨k, hk, hb⟩)
theorem RTurnD.comp {w w1 w' : World} {d : Nat} {F G F1 G1 : List Nat} {D : St} (h2 : ∀ g ∈ F1, g ∈ F ∨ w.heap.size ≤ g) (h3 : ∀ g ∈ G1, g ∈ G ∨ w.heap.size ≤ g) (h4 : Keeps [d] w w1) (h : RTurnD w1 w' d F1 G1 D) : RTurnD w w' d F G D := by
  obtain ⟨F2, G2, k1, k2, k3, k4⟩ := h
  have hs := h4.size
  refine ⟨F2, G2, k1, fun g hg => ?_, fun g hg => ?_, h4.trans k4 (fun g hg => .inl hg)⟩
  · rcases k2 g hg with h | h
    · exact h2 g h
    · exact .inr (by omega)
  · rcases k3 g hg with h | h
    · exact h3 g h
    · exact .inr (by omega)
set_option maxRecDepth 100000 in
set_option maxHeartbeats 6400000 in
theorem rAbort_all (d : Nat) : ∀ (N : Nat) (T : St) (Z : Int → Bool) (w : World) (F G : List Nat) (i : Int), Tree T → (notZ Z T).length ≤ N → (notZ Z T).length ≤ 1000000 → Rf w d F G (notZ Z T) → Z 0 = false → (∀ z ∈ T, Z z.id = true → below T i z.id = false) →
    Calls Tryz.prog 51 #[.pointer (some ⟨d, 0, none⟩), .int .i64 i] w fun e w' => e = .returned (.tuple #[]) ∧ RTurnD w w' d F G (notZ Z (abortP T i)) := by
  intro N
  induction N with
  | zero =>
    intro T Z w F G i hT hN hl h h0 hZ
    obtain ⟨h1, _⟩ := (row0_notZ hT h0).first
    rw [List.length_reverse] at h1
    omega
  | succ N ih =>
    intro T Z w F G i hT hN hl h h0 hZ
    have hR0 := row0_notZ hT h0
    have CP := Lib.hid (place_any h hl i)
    have HS := Lib.hid (RTurnD.same h (Keeps.refl [] w))
    cases hh : has (notZ Z T) i with
    | false =>
      have e0 : abortP T i = T := by
        unfold abortP
        rw [if_pos]
        by_cases hi : i = 0
        · exact .inl hi
        · refine .inr ?_
          rw [Bool.eq_false_iff]
          intro ht
          obtain ⟨x, hx, e⟩ := has_iff.1 ht
          cases hzi : Z x.id with
          | true =>
            have := hZ x hx hzi
            rw [e, below_self ht] at this
            cases this
          | false =>
            have : has (notZ Z T) i = true := has_iff.2 ⟨x, List.mem_filter.2 ⟨hx, by rw [hzi]; rfl⟩, e⟩
            rw [hh] at this
            cases this
      rw [e0]
      rw [plc_no hh] at CP
      clear h hh hZ ih e0 hT hN hl h0 hR0
      go_enter Tryz.func51, Tryz.ntmps51
      go_wp2_with fail
      refine CP.out.mono ?_
      rintro e w1 ⟨rfl, rfl⟩
      go_wp2_with fail
      refine bodyPost_ret (results_none rfl _ _ _) rfl ?_
      exact ⟨rfl, HS.out⟩
    | true =>
      obtain ⟨x, j, g, cap, ms, A1, A2, A3, p1, p2, p3, hf, hx, hxi, hp, hjn, hat, hz, hM, hpl⟩ := h.openM hR0 hh
      rw [hp] at CP
      by_cases hi : i = 0
      · have e0 : abortP T i = T := by unfold abortP; rw [if_pos (.inl hi)]
        rw [e0]
        have hj0 : j = 0 := hz.2 hi
        subst hj0
        clear h hh hZ ih e0 hT hN hl h0 hR0 hf hx hxi hp hjn hat hz hM hpl hi
        go_enter Tryz.func51, Tryz.ntmps51
        go_wp2_with fail
        refine CP.out.mono ?_
        rintro e w1 ⟨rfl, rfl⟩
        go_wp2_with fail
        refine bodyPost_ret (results_none rfl _ _ _) rfl ?_
        exact ⟨rfl, HS.out⟩
      · have i0 : ¬ ((j : Int) ≤ 0) := by
          intro h1
          exact hi (hz.1 (by omega))
        obtain ⟨hk, hxx⟩ := hat
        have CR := Lib.hid (rRemove_any h hR0 hl hk hxx)
        -- the state behind the removal
        obtain ⟨Z', hZ'd⟩ : ∃ Z' : Int → Bool, Z' = fun q => Z q || decide (q = i) := ⟨_, rfl⟩
        have hdrop : dropP (notZ Z T) x.id = notZ Z' T := by
          unfold dropP notZ
          rw [List.filter_filter, hxi, hZ'd]
          refine List.filter_congr (fun y _ => ?_)
          dsimp only
          generalize Z y.id = b
          by_cases hyi : y.id = i <;> cases b <;> simp [hyi]
        have hlen : (notZ Z' T).length < (notZ Z T).length := by
          rw [← hdrop]
          unfold dropP
          exact List.length_filter_lt_length_iff_exists.2 ⟨x, hx, by simp⟩
        rw [hdrop] at CR
        have hZ0' : Z' 0 = false := by rw [hZ'd]; dsimp only; rw [h0]; simp [Ne.symm hi]
        have hR1 := row0_notZ hT hZ0'
        have hxT : x ∈ T := (List.mem_filter.1 hx).1
        have hiT : has T i = true := has_iff.2 ⟨x, hxT, hxi⟩
        have hZi : Z i = false := by
          have := (List.mem_filter.1 hx).2
          rw [hxi] at this
          simpa using this
        -- one round
        have hstep : ∀ k (hk : k < (notZ Z' T).reverse.length), ((notZ Z' T).reverse[k].par = i → 0 < (notZ Z' T).reverse[k].id → abortP (cutK T i (((notZ Z' T).reverse.take k).map (·.id))) (notZ Z' T).reverse[k].id = cutK T i (((notZ Z' T).reverse.take (k + 1)).map (·.id)) ∧
              (∀ z ∈ cutK T i (((notZ Z' T).reverse.take k).map (·.id)), Z' z.id = true → below (cutK T i (((notZ Z' T).reverse.take k).map (·.id))) (notZ Z' T).reverse[k].id z.id = false)) ∧
            (¬ ((notZ Z' T).reverse[k].par = i ∧ 0 < (notZ Z' T).reverse[k].id) → cutK T i (((notZ Z' T).reverse.take (k + 1)).map (·.id)) = cutK T i (((notZ Z' T).reverse.take k).map (·.id))) := by
          intro k hk
          have hyC : (notZ Z' T).reverse[k] ∈ notZ Z' T := List.mem_reverse.1 (List.getElem_mem hk)
          have hyT : (notZ Z' T).reverse[k] ∈ T := (List.mem_filter.1 hyC).1
          have hks : ((notZ Z' T).reverse.take (k + 1)).map (·.id) = ((notZ Z' T).reverse.take k).map (·.id) ++ [(notZ Z' T).reverse[k].id] := by
            rw [List.take_succ_eq_append_getElem hk, List.map_append]; rfl
          have hkid := kid_of hT hyT i
          have hpos := hT.pos hyT
          refine ⟨fun hp h1 => ?_, fun hne => ?_⟩
          · have hkid' : isKid T i (notZ Z' T).reverse[k].id = true := by rw [hkid, Bool.and_eq_true, decide_eq_true_eq, decide_eq_true_eq]; exact ⟨by omega, hp⟩
            have hnin : (notZ Z' T).reverse[k].id ∉ ((notZ Z' T).reverse.take k).map (·.id) := by
              intro hm
              obtain ⟨y, hy, e⟩ := List.mem_map.1 hm
              obtain ⟨q, hq, rfl⟩ := List.mem_iff_getElem.1 hy
              rw [List.length_take] at hq
              rw [List.getElem_take] at e
              have := hR1.inj (j := q) (k := k) (by omega) hk e
              omega
            refine ⟨by rw [hks]; exact cutK_step hT _ hkid' hnin, fun z hzm hzz => ?_⟩
            have hzT : z ∈ T := (List.mem_filter.1 hzm).1
            have hzp := (List.mem_filter.1 hzm).2
            have hbf := below_filter hT (p := fun z => !((((notZ Z' T).reverse.take k).map (·.id)).any fun k => isKid T i k && below T k z.id)) (cutK_up hT _) (notZ Z' T).reverse[k].id hzT hzp
            unfold cutK
            rw [hbf, Bool.eq_false_iff]
            intro hb
            have hzz2 : Z z.id = true ∨ z.id = i := by
              rw [hZ'd] at hzz
              dsimp only at hzz
              rw [Bool.or_eq_true, decide_eq_true_eq] at hzz
              exact hzz
            rcases hzz2 with h2 | h2
            · have h3 := hZ z hzT h2
              rw [below_up hT hi hkid' hzT hb] at h3
              cases h3
            · rw [h2, kid_not_above hT hkid'] at hb
              cases hb
          · rw [hks]
            refine cutK_skip _ ?_
            rw [hkid, Bool.eq_false_iff]
            intro hb
            rw [Bool.and_eq_true, decide_eq_true_eq, decide_eq_true_eq] at hb
            exact hne ⟨hb.2, by omega⟩
        have hend : notZ Z' (cutK T i ((notZ Z' T).reverse.map (·.id))) = notZ Z (abortP T i) := by
          rw [← cutK_end hT hiT hi (ks := (notZ Z' T).reverse.map (·.id)) (fun k hk => ?_)]
          · unfold notZ dropP
            rw [List.filter_filter, hZ'd]
            refine List.filter_congr (fun y _ => ?_)
            dsimp only
            generalize Z y.id = b
            by_cases hyi : y.id = i <;> cases b <;> simp [hyi]
          · obtain ⟨z, h1, h2, h3⟩ := isKid_iff.1 hk
            obtain ⟨h4, h5⟩ := find_mem h1
            refine List.mem_map.2 ⟨z, List.mem_reverse.2 (List.mem_filter.2 ⟨h4, ?_⟩), h5⟩
            rw [hZ'd]
            dsimp only
            rw [Bool.not_eq_true', Bool.or_eq_false_iff, decide_eq_false_iff_not]
            refine ⟨?_, ?_⟩
            · rw [Bool.eq_false_iff]
              intro hzz
              have h6 := hZ z h4 hzz
              have h7 : below T k z.id = true := by rw [h5]; exact below_self (by rw [← find_has, h1]; rfl)
              rw [below_up hT hi hk h4 h7] at h6
              cases h6
            · intro e
              have := kid_pos hT hk
              rw [← h5, e] at this
              omega
        have hstart : notZ Z' (cutK T i (((notZ Z' T).reverse.take 0).map (·.id))) = notZ Z' T := by
          rw [List.take_zero, List.map_nil, cutK_nil]
        have hcl : ∀ ks, (notZ Z' (cutK T i ks)).length ≤ (notZ Z' T).length := fun ks => by
          unfold notZ cutK
          rw [List.filter_filter]
          have : T.filter (fun a => !Z' a.id && !ks.any fun k => isKid T i k && below T k a.id) = (T.filter fun a => !Z' a.id).filter (fun a => !ks.any fun k => isKid T i k && below T k a.id) := by
            rw [List.filter_filter]
            refine List.filter_congr (fun y _ => by rw [Bool.and_comm])
          rw [this]
          exact List.length_filter_le _ _
        have HST := Lib.hid hstep
        have HEN := Lib.hid hend
        have HSTART := Lib.hid hstart
        have HCT : Hid (∀ ks, Tree (cutK T i ks)) := Lib.hid (fun ks => hT.filter (cutK_zero hT ks) (cutK_up hT ks))
        have HIH := Lib.hid (fun ks => fun (w : World) (F G : List Nat) (q : Int) hr hz => ih (cutK T i ks) Z' w F G q (HCT.out ks) (by have := hcl ks; omega) (by have := hcl ks; omega) hr hZ0' hz)
        have HR1 := Lib.hid hR1
        have hl1 : (notZ Z' T).length ≤ 1000000 := by omega
        obtain ⟨C1, hC1⟩ : ∃ C1, notZ Z' T = C1 := ⟨_, rfl⟩
        rw [hC1] at CR HST HEN HSTART HR1 hl1
        obtain ⟨R, hR⟩ : ∃ R, C1.reverse = R := ⟨_, rfl⟩
        rw [hR] at HST HEN HSTART
        have HRR := Lib.hid hR
        obtain ⟨E, hE⟩ : ∃ E, notZ Z (abortP T i) = E := ⟨_, rfl⟩
        rw [hE] at HEN ⊢
        clear h hh hZ ih hT hN hl h0 hR0 hf hx hxi hp hjn hz hM hpl hdrop hlen hZ0' hR1 hxT hiT hZi hstep hend hstart hcl hC1 hR hE hk hxx HS hZ'd
        have HI := Lib.hid hi
        clear hi
        go_enter Tryz.func51, Tryz.ntmps51
        go_wp2_with fail
        refine CP.out.mono ?_
        rintro e w1 ⟨rfl, rfl⟩
        go_wp2_with fail
        refine CR.out.mono ?_
        rintro e w2 ⟨rfl, ht⟩
        obtain ⟨F1, G1, hrf, hF1, hG1, hk1⟩ := ht
        have HT0 : Hid (RTurnD w1 w2 d F G C1) := Lib.hid ⟨F1, G1, hrf, hF1, hG1, hk1⟩
        have HRF := Lib.hid hrf
        obtain ⟨A, cap2, ms2, hm⟩ := hrf
        have HROW := Lib.hid hm.row
        have HB := Lib.hid hm.b
        have f0 : w2.cell? ⟨d, 0, none⟩ = some (.slice A C1.length cap2) := hm.b.cell 0
        have HOFF := Lib.hid (own_blk_off hm.row hm.b (by decide))
        rw [HRR.out] at HROW
        have HLEN : Hid (R.length = C1.length) := Lib.hid (by rw [← HRR.out, List.length_reverse])
        obtain ⟨n, hn⟩ : ∃ n, C1.length = n := ⟨_, rfl⟩
        rw [hn] at f0 HROW HOFF HLEN hl1
        clear hm hF1 hG1 hk1 hn CR CP HB
        go_wp2_with fail
        clear f0
        go_loopw [6] (fun iv wr => ∃ k : Nat, k ≤ n ∧ iv = .int .i64 k ∧ RTurnD w1 wr d F G (notZ Z' (cutK T i ((R.take k).map (·.id)))) ∧ Keeps [d] w2 wr) (fun iv _ => n - (intOf iv).toNat)
        case atStart => exact ⟨0, by omega, rfl, by rw [HSTART.out]; exact HT0.out, Keeps.refl _ _⟩
        case round =>
          obtain ⟨k, hkn, rfl, htr, hkr⟩ := hrel
          have HTR := Lib.hid htr
          have KR := Lib.hid hkr
          clear htr hkr
          by_cases hlt : k < n
          · have hkR : k < R.length := by rw [HLEN.out]; exact hlt
            obtain ⟨s1, s2⟩ := HST.out k (by exact hkR)
            obtain ⟨A', c', hv, -, -, hA⟩ := own_shape HROW.out
            obtain ⟨g2, hAA⟩ := hA (by omega)
            obtain ⟨rfl, rfl⟩ : A = A' ∧ cap2 = c' := by injection hv with h1 h2 h3; exact ⟨h1, h3⟩
            subst hAA
            have orow := own_keep HROW.out KR.out (fun g hg h' => by rw [List.mem_singleton.1 h'] at hg; exact HOFF.out hg)
            obtain ⟨y, hy⟩ : ∃ y, R[k] = y := ⟨_, rfl⟩
            rw [hy] at s1 s2
            have y0 : wr.cell? ⟨g2, k * 5, none⟩ = some (.int .i64 y.id) := own_cell orow (by rw [← Nat.add_zero (k * 5), rw_at (oc_len ms2) hkR (by omega), hy]; rfl)
            have y1 : wr.cell? ⟨g2, k * 5 + 1, none⟩ = some (.int .i64 y.par) := own_cell orow (by rw [rw_at (oc_len ms2) hkR (by omega), hy]; rfl)
            have j0 : (0 : Int) ≤ (k : Int) := by omega
            have j1 : (k : Int) < (n : Int) := by omega
            have S1 := Lib.hid s1
            have S2 := Lib.hid s2
            obtain ⟨yi, hyi⟩ : ∃ z, y.id = z := ⟨_, rfl⟩
            obtain ⟨yp, hyp⟩ : ∃ z, y.par = z := ⟨_, rfl⟩
            rw [hyi] at y0 S1 S2
            rw [hyp] at y1 S1 S2
            clear s1 s2 hv hA orow hy hyi hyp hkR
            by_cases hpi : yp = i
            · by_cases hpos : 0 < yi
              · obtain ⟨e1, e2⟩ := S1.out hpi hpos
                obtain ⟨F2, G2, hrf2, q1, q2, q3⟩ := HTR.out
                have CA := Lib.hid (HIH.out _ wr F2 G2 yi hrf2 e2)
                rw [e1] at CA
                have HQ : Hid ((∀ g ∈ F2, g ∈ F ∨ w1.heap.size ≤ g) ∧ (∀ g ∈ G2, g ∈ G ∨ w1.heap.size ≤ g) ∧ Keeps [d] w1 wr) := Lib.hid ⟨q1, q2, q3⟩
                clear e1 e2 hrf2 q1 q2 q3
                subst hpi
                go_wp2_with fail
                refine CA.out.mono ?_
                rintro e w3 ⟨rfl, ht⟩
                have HT3 : Hid (RTurnD w1 w3 d F G (notZ Z' (cutK T yp ((R.take (k + 1)).map (·.id))))) := Lib.hid (RTurnD.comp HQ.out.1 HQ.out.2.1 HQ.out.2.2 ht)
                have K3 : Hid (Keeps [d] w2 w3) := Lib.hid (by
                  obtain ⟨_, _, _, _, _, q4⟩ := ht
                  exact KR.out.trans q4 (fun g hg => .inl hg))
                clear ht y0 y1
                go_wp2_with fail
                exact ⟨⟨k + 1, by omega, rfl, HT3.out, K3.out⟩, by simp only [intOf]; omega⟩
              · have HT3 : Hid (RTurnD w1 wr d F G (notZ Z' (cutK T i ((R.take (k + 1)).map (·.id))))) := Lib.hid (by rw [S2.out (fun h => hpos h.2)]; exact HTR.out)
                subst hpi
                go_wp2_with fail
                exact ⟨⟨k + 1, by omega, rfl, HT3.out, KR.out⟩, by simp only [intOf]; omega⟩
            · have HT3 : Hid (RTurnD w1 wr d F G (notZ Z' (cutK T i ((R.take (k + 1)).map (·.id))))) := Lib.hid (by rw [S2.out (fun h => hpi h.1)]; exact HTR.out)
              have hne : (yp == i) = false := by simpa using hpi
              clear hpi
              go_wp2_with fail
              exact ⟨⟨k + 1, by omega, rfl, HT3.out, KR.out⟩, by simp only [intOf]; omega⟩
          · obtain rfl : k = n := by omega
            have j1 : ¬ ((k : Int) < (k : Int)) := by omega
            have HT3 : Hid (RTurnD w1 wr d F G E) := Lib.hid (by
              have := HTR.out
              rw [List.take_of_length_le (by rw [HLEN.out]; omega), HEN.out] at this
              exact this)
            clear HTR
            go_wp2_with fail
            go_end0
            exact ⟨rfl, HT3.out⟩
theorem rAbort_any {P : List Str} {w : World} {d : Nat} {F G : List Nat} {C : St} (h : Rf w d F G C) (hW : WF P C) (hl : C.length ≤ 1000000) (i : Int) :
    Calls Tryz.prog 51 #[.pointer (some ⟨d, 0, none⟩), .int .i64 i] w fun e w' => e = .returned (.tuple #[]) ∧ RTurnD w w' d F G (abortP C i) := by
  have e : ∀ D : St, notZ (fun _ => false) D = D := fun D => by unfold notZ; rw [List.filter_eq_self]; intro _ _; rfl
  have h1 := rAbort_all d C.length C (fun _ => false) w F G i hW.tree (by rw [e]; exact Nat.le_refl _) (by rw [e]; exact hl) (by rw [e]; exact h) rfl (fun _ _ h => by cases h)
  rw [e] at h1
  exact h1
end Go.Proofs.YtbllmpcpfmlemaaGreat
