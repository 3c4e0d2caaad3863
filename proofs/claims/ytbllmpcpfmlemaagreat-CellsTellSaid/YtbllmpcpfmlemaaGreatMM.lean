/- Texts of the elder seat, turned to this one: W23 W24 W25. -/
import Derived.Test.YtbllmpcpfmlemaaGreatML
import Derived.Test.YtbllmpcpfmlemaaGreatSh
namespace Go.Proofs.YtbllmpcpfmlemaaGreat
open Go.RowKit
noncomputable def stale2C : Code := ((Tryz.f55.body.bind (theRegion 2)).getD .skip)
set_option maxRecDepth 1000000 in
set_option maxHeartbeats 1600000 in
set_option linter.unusedSimpArgs false in
theorem stale2_any (w : World) (g xb pb rb : Nat) (c0 c3 : Value) (k v s : Str) (K : Exit → Act → World → Prop)
    (hS : ∀ W, Keeps [] w W → W.cell? ⟨g, 0, none⟩ = some (.pointer (some ⟨xb, 0, none⟩)) ∧ W.cell? ⟨xb, 0, none⟩ = some (.pointer (some ⟨pb, 0, none⟩)) ∧ Blk W rb 34 #[c0, sv k, sv v, c3])
    (hC : ∀ W, Keeps [] w W → Calls Tryz.prog 56 #[.pointer (some ⟨pb, 0, none⟩), sv k] W fun e w' => e = .returned (sv s) ∧ w' = W)
    (u0 u3 u4 u5 u6 u7 u8 u9 u10 u11 u12 u13 u14 u15 u16 u17 u18 u19 u20 u21 u22 u23 u24 u25 u26 u27 : Value)
    (hK : ∀ (v7 v8 v9 v10 v11 v12 v13 v14 v15 v16 : Value) (W : World), Keeps [] w W → K .normal ⟨#[u0, .pointer (some ⟨g, 0, none⟩), .pointer (some ⟨rb, 0, none⟩), .bool (!s == v), u4, u5, u6, v7, v8, v9, v10, v11, v12, v13, v14, v15, v16, u17, u18, u19, u20, u21, u22, u23, u24, u25, u26, u27], []⟩ W) :
    Code.wp Tryz.prog stale2C K ⟨#[u0, .pointer (some ⟨g, 0, none⟩), .pointer (some ⟨rb, 0, none⟩), u3, u4, u5, u6, u7, u8, u9, u10, u11, u12, u13, u14, u15, u16, u17, u18, u19, u20, u21, u22, u23, u24, u25, u26, u27], []⟩ w := by
  have HS := Lib.hid hS
  have HC := Lib.hid hC
  clear hS hC
  conv => arg 2; whnf
  try dsimp only at hK ⊢
  refine wp_region_noPanic ?_
  refine wp_region_held_drew (S := fun W => W.cell? ⟨g, 0, none⟩ = some (.pointer (some ⟨xb, 0, none⟩)) ∧ W.cell? ⟨xb, 0, none⟩ = some (.pointer (some ⟨pb, 0, none⟩)) ∧ Blk W rb 34 #[c0, sv k, sv v, c3]) (by kernel_rfl) (HS.out _ ((Keeps.refl [] w).drew)) (fun hHeld => ?_)
  obtain ⟨w0, hw0⟩ : ∃ w0, w.drew = w0 := ⟨_, rfl⟩
  try rw [hw0] at hHeld
  rw [hw0]
  have K0 : Keeps [] w w0 := by rw [← hw0]; exact (Keeps.refl [] w).drew
  clear hw0
  refine wpAnyH_take (i := 0) (oi := ⟨some 7, .load 61 (.tmp 1), 61, _, _, none⟩) (v := .pointer (some ⟨xb, 0, none⟩)) rfl (by kernel_rfl) (by kernel_rfl) (by kernel_rfl) (fun _ _ _ h => h) (Or.inl ⟨by rfl, fun W hW => ?_⟩) (by assumption) ?_
  · (have a0 := hW.1; clear hW; go_simp)
  try simp only [Act.put, lA, l0, lS]
  refine wpAnyH_take (i := 1) (oi := ⟨some 8, .nilCheck (.tmp 7), 0, _, _, none⟩) (v := ?vq1) rfl (by kernel_rfl) (by kernel_rfl) (by kernel_rfl) (fun _ _ _ h => h) (Or.inl ⟨by rfl, fun W hW => ?_⟩) (by assumption) ?_
  rotate_left
  · go_simp
    with_reducible rfl
  try simp only [Act.put, lA, l0, lS]
  refine wpAnyH_take (i := 2) (oi := ⟨some 9, .fieldAddr 77 (.tmp 8) 0, 0, _, _, none⟩) (v := ?vq2) rfl (by kernel_rfl) (by kernel_rfl) (by kernel_rfl) (fun _ _ _ h => h) (Or.inl ⟨by rfl, fun W hW => ?_⟩) (by assumption) ?_
  rotate_left
  · go_simp
    with_reducible rfl
  try simp only [Act.put, lA, l0, lS]
  refine wpAnyH_take (i := 3) (oi := ⟨some 10, .load 61 (.tmp 9), 61, _, _, none⟩) (v := .pointer (some ⟨pb, 0, none⟩)) rfl (by kernel_rfl) (by kernel_rfl) (by kernel_rfl) (fun _ _ _ h => h) (Or.inl ⟨by rfl, fun W hW => ?_⟩) (by assumption) ?_
  · (have a0 := hW.2.1; clear hW; go_simp)
  try simp only [Act.put, lA, l0, lS]
  refine wpAnyH_take (i := 4) (oi := ⟨some 11, .fieldAddr 34 (.tmp 2) 1, 0, _, _, none⟩) (v := ?vq3) rfl (by kernel_rfl) (by kernel_rfl) (by kernel_rfl) (fun _ _ _ h => h) (Or.inl ⟨by rfl, fun W hW => ?_⟩) (by assumption) ?_
  rotate_left
  · go_simp
    with_reducible rfl
  try simp only [Act.put, lA, l0, lS]
  refine wpAnyH_take (i := 5) (oi := ⟨some 12, .load 9 (.tmp 11), 9, _, _, none⟩) (v := sv k) rfl (by kernel_rfl) (by kernel_rfl) (by kernel_rfl) (fun _ _ _ h => h) (Or.inl ⟨by rfl, fun W hW => ?_⟩) (by assumption) ?_
  · (have a0 := hW.2.2.cell 1; clear hW; go_simp)
  try simp only [Act.put, lA, l0, lS]
  refine wpAnyH_take (i := 7) (oi := ⟨some 14, .fieldAddr 34 (.tmp 2) 2, 0, _, _, none⟩) (v := ?vq4) rfl (by kernel_rfl) (by kernel_rfl) (by kernel_rfl) (fun _ _ _ h => h) (Or.inl ⟨by rfl, fun W hW => ?_⟩) (by assumption) ?_
  rotate_left
  · go_simp
    with_reducible rfl
  try simp only [Act.put, lA, l0, lS]
  refine wpAnyH_take (i := 8) (oi := ⟨some 15, .load 9 (.tmp 14), 9, _, _, none⟩) (v := sv v) rfl (by kernel_rfl) (by kernel_rfl) (by kernel_rfl) (fun _ _ _ h => h) (Or.inl ⟨by rfl, fun W hW => ?_⟩) (by assumption) ?_
  · (have a0 := hW.2.2.cell 2; clear hW; go_simp)
  try simp only [Act.put, lA, l0, lS]
  refine wpAnyH_ready (rs := [6]) (by kernel_rfl) (by simp) ?_
  refine AllReadyH.cons (o := ⟨some 13, .call { callee := .value (.func 56), args := #[.tmp 10, .tmp 12], argTypes := #[61, 9] }, 9, _, _, none⟩) rfl (fun KK hKK => ?_) AllReadyH.nil
  refine step_callW (by rfl) 56 _ _ rfl #[.pointer (some ⟨pb, 0, none⟩), sv k] (by first | (simp [Act.eval]; done) | (simp [Act.eval, Act.put]; done)) (enters_of Tryz.func56 (by kernel_rfl) rfl) (HC.out _ K0) ?_
  rintro e W5 ⟨rfl, rfl⟩
  refine ⟨_, rfl, ?_⟩
  refine hKK.out _ _ (HS.out _ K0) (fun hHeld => ?_)
  clear hKK KK
  try simp only [Act.put, lA, l0, lS]
  refine wpAnyH_take (i := 9) (oi := ⟨some 16, .binOp .neq 9 (.tmp 13) (.tmp 15) 9, 4, _, _, none⟩) (v := ?vq6) rfl (by kernel_rfl) (by kernel_rfl) (by kernel_rfl) (fun _ _ _ h => h) (Or.inl ⟨by rfl, fun W hW => ?_⟩) (by assumption) ?_
  rotate_left
  · go_simp
    with_reducible rfl
  try simp only [Act.put, lA, l0, lS]
  refine wpAnyH_take (i := 10) (oi := ⟨some 3, .assign (.tmp 16), 4, _, _, none⟩) (v := ?vq7) rfl (by kernel_rfl) (by kernel_rfl) (by kernel_rfl) (fun _ _ _ h => h) (Or.inl ⟨by rfl, fun W hW => ?_⟩) (by assumption) ?_
  rotate_left
  · go_simp
    with_reducible rfl
  try simp only [Act.put, lA, l0, lS]
  refine wpAnyH_done (by kernel_rfl) ?_ _
  refine NoPanic.normal ?_
  exact hK _ _ _ _ _ _ _ _ _ _ _ K0
noncomputable def stale3C : Code := ((Tryz.f55.body.bind (theRegion 3)).getD .skip)
set_option maxRecDepth 1000000 in
set_option maxHeartbeats 1600000 in
set_option linter.unusedSimpArgs false in
theorem stale3_any (w : World) (g xb pb rb : Nat) (c0 c2 : Value) (k : Str) (l s : List Str) (A : Option Addr) (cc : Nat) (t : Bool) (K : Exit → Act → World → Prop)
    (hS : ∀ W, Keeps [] w W → W.cell? ⟨g, 0, none⟩ = some (.pointer (some ⟨xb, 0, none⟩)) ∧ W.cell? ⟨xb, 0, none⟩ = some (.pointer (some ⟨pb, 0, none⟩)) ∧ Blk W rb 34 #[c0, sv k, c2, .slice A l.length cc]) (hA : ∀ W, Keeps [] w W → AtS W A l) (hs : s.length ≤ 1000000) (hE : decide (s = l) = t)
    (hC : ∀ W, Keeps [] w W → Calls Tryz.prog 58 #[.pointer (some ⟨pb, 0, none⟩), sv k] W fun e w' => ∃ v, e = .returned v ∧ w'.ownsRow 0 9 1 v s.length (vs s) ∧ Keeps [] W w' ∧ ∀ g ∈ fp v, W.heap.size ≤ g)
    (u0 u3 u4 u5 u6 u7 u8 u9 u10 u11 u12 u13 u14 u15 u16 u17 u18 u19 u20 u21 u22 u23 u24 u25 u26 u27 : Value)
    (hK : ∀ (v17 v18 v19 v20 v21 v22 v23 v24 v25 v26 v27 : Value) (W : World), Keeps [] w W → K .normal ⟨#[u0, .pointer (some ⟨g, 0, none⟩), .pointer (some ⟨rb, 0, none⟩), .bool (!t), u4, u5, u6, u7, u8, u9, u10, u11, u12, u13, u14, u15, u16, v17, v18, v19, v20, v21, v22, v23, v24, v25, v26, v27], []⟩ W) :
    Code.wp Tryz.prog stale3C K ⟨#[u0, .pointer (some ⟨g, 0, none⟩), .pointer (some ⟨rb, 0, none⟩), u3, u4, u5, u6, u7, u8, u9, u10, u11, u12, u13, u14, u15, u16, u17, u18, u19, u20, u21, u22, u23, u24, u25, u26, u27], []⟩ w := by
  have HS := Lib.hid hS
  have HC := Lib.hid hC
  have HA := Lib.hid hA
  clear hS hC hA
  conv => arg 2; whnf
  try dsimp only at hK ⊢
  refine wp_region_noPanic ?_
  refine wp_region_held_drew (S := fun W => W.cell? ⟨g, 0, none⟩ = some (.pointer (some ⟨xb, 0, none⟩)) ∧ W.cell? ⟨xb, 0, none⟩ = some (.pointer (some ⟨pb, 0, none⟩)) ∧ Blk W rb 34 #[c0, sv k, c2, .slice A l.length cc]) (by kernel_rfl) (HS.out _ ((Keeps.refl [] w).drew)) (fun hHeld => ?_)
  obtain ⟨w0, hw0⟩ : ∃ w0, w.drew = w0 := ⟨_, rfl⟩
  try rw [hw0] at hHeld
  rw [hw0]
  have K0 : Keeps [] w w0 := by rw [← hw0]; exact (Keeps.refl [] w).drew
  clear hw0
  refine wpAnyH_take (i := 0) (oi := ⟨some 17, .load 61 (.tmp 1), 61, _, _, none⟩) (v := .pointer (some ⟨xb, 0, none⟩)) rfl (by kernel_rfl) (by kernel_rfl) (by kernel_rfl) (fun _ _ _ h => h) (Or.inl ⟨by rfl, fun W hW => ?_⟩) (by assumption) ?_
  · (have a0 := hW.1; clear hW; go_simp)
  try simp only [Act.put, lA, l0, lS]
  refine wpAnyH_take (i := 1) (oi := ⟨some 18, .nilCheck (.tmp 17), 0, _, _, none⟩) (v := ?vq8) rfl (by kernel_rfl) (by kernel_rfl) (by kernel_rfl) (fun _ _ _ h => h) (Or.inl ⟨by rfl, fun W hW => ?_⟩) (by assumption) ?_
  rotate_left
  · go_simp
    with_reducible rfl
  try simp only [Act.put, lA, l0, lS]
  refine wpAnyH_take (i := 2) (oi := ⟨some 19, .fieldAddr 77 (.tmp 18) 0, 0, _, _, none⟩) (v := ?vq9) rfl (by kernel_rfl) (by kernel_rfl) (by kernel_rfl) (fun _ _ _ h => h) (Or.inl ⟨by rfl, fun W hW => ?_⟩) (by assumption) ?_
  rotate_left
  · go_simp
    with_reducible rfl
  try simp only [Act.put, lA, l0, lS]
  refine wpAnyH_take (i := 3) (oi := ⟨some 20, .load 61 (.tmp 19), 61, _, _, none⟩) (v := .pointer (some ⟨pb, 0, none⟩)) rfl (by kernel_rfl) (by kernel_rfl) (by kernel_rfl) (fun _ _ _ h => h) (Or.inl ⟨by rfl, fun W hW => ?_⟩) (by assumption) ?_
  · (have a0 := hW.2.1; clear hW; go_simp)
  try simp only [Act.put, lA, l0, lS]
  refine wpAnyH_take (i := 4) (oi := ⟨some 21, .fieldAddr 34 (.tmp 2) 1, 0, _, _, none⟩) (v := ?vq10) rfl (by kernel_rfl) (by kernel_rfl) (by kernel_rfl) (fun _ _ _ h => h) (Or.inl ⟨by rfl, fun W hW => ?_⟩) (by assumption) ?_
  rotate_left
  · go_simp
    with_reducible rfl
  try simp only [Act.put, lA, l0, lS]
  refine wpAnyH_take (i := 5) (oi := ⟨some 22, .load 9 (.tmp 21), 9, _, _, none⟩) (v := sv k) rfl (by kernel_rfl) (by kernel_rfl) (by kernel_rfl) (fun _ _ _ h => h) (Or.inl ⟨by rfl, fun W hW => ?_⟩) (by assumption) ?_
  · (have a0 := hW.2.2.cell 1; clear hW; go_simp)
  try simp only [Act.put, lA, l0, lS]
  refine wpAnyH_take (i := 7) (oi := ⟨some 24, .fieldAddr 34 (.tmp 2) 3, 0, _, _, none⟩) (v := ?vq11) rfl (by kernel_rfl) (by kernel_rfl) (by kernel_rfl) (fun _ _ _ h => h) (Or.inl ⟨by rfl, fun W hW => ?_⟩) (by assumption) ?_
  rotate_left
  · go_simp
    with_reducible rfl
  try simp only [Act.put, lA, l0, lS]
  refine wpAnyH_take (i := 8) (oi := ⟨some 25, .load 29 (.tmp 24), 29, _, _, none⟩) (v := .slice A l.length cc) rfl (by kernel_rfl) (by kernel_rfl) (by kernel_rfl) (fun _ _ _ h => h) (Or.inl ⟨by rfl, fun W hW => ?_⟩) (by assumption) ?_
  · (have a0 := hW.2.2.cell 3; clear hW; go_simp)
  try simp only [Act.put, lA, l0, lS]
  refine wpAnyH_ready (rs := [6]) (by kernel_rfl) (by simp) ?_
  refine AllReadyH.cons (o := ⟨some 23, .call { callee := .value (.func 58), args := #[.tmp 20, .tmp 22], argTypes := #[61, 9] }, 29, _, _, none⟩) rfl (fun KK hKK => ?_) AllReadyH.nil
  refine step_callW (by rfl) 58 _ _ rfl #[.pointer (some ⟨pb, 0, none⟩), sv k] (by first | (simp [Act.eval]; done) | (simp [Act.eval, Act.put]; done)) (enters_of Tryz.func58 (by kernel_rfl) rfl) (HC.out _ K0) ?_
  rintro e W12 ⟨vv, rfl, o2, k2, -⟩
  refine ⟨_, rfl, ?_⟩
  have K13 : Keeps [] w W12 := K0.trans k2 (by simp)
  obtain ⟨B, d, rfl, -, -, -⟩ := own_shape o2
  have ab := AtS.of_own o2 hs
  refine hKK.out _ _ (HS.out _ K13) (fun hHeld => ?_)
  clear hKK KK
  try simp only [Act.put, lA, l0, lS]
  refine wpAnyH_ready (rs := [9]) (by kernel_rfl) (by simp) ?_
  refine AllReadyH.cons (o := ⟨some 26, .call { callee := .value (.func 57), args := #[.tmp 23, .tmp 25], argTypes := #[29, 29] }, 4, _, _, none⟩) rfl (fun KK hKK => ?_) AllReadyH.nil
  have heq := equalS_any W12 B A s l d cc ab (HA.out _ K13)
  rw [hE] at heq
  refine step_callW (by rfl) 57 _ _ rfl #[.slice B s.length d, .slice A l.length cc] (by first | (simp [Act.eval]; done) | (simp [Act.eval, Act.put]; done)) (enters_of Tryz.func57 (by kernel_rfl) rfl) heq ?_
  rintro e W14 ⟨rfl, k3⟩
  refine ⟨_, rfl, ?_⟩
  have K15 : Keeps [] w W14 := K13.trans k3 (by simp)
  refine hKK.out _ _ (HS.out _ K15) (fun hHeld => ?_)
  clear hKK KK heq
  try simp only [Act.put, lA, l0, lS]
  refine wpAnyH_take (i := 10) (oi := ⟨some 27, .unOp .not 4 (.tmp 26), 4, _, _, none⟩) (v := ?vq16) rfl (by kernel_rfl) (by kernel_rfl) (by kernel_rfl) (fun _ _ _ h => h) (Or.inl ⟨by rfl, fun W hW => ?_⟩) (by assumption) ?_
  rotate_left
  · go_simp
    with_reducible rfl
  try simp only [Act.put, lA, l0, lS]
  refine wpAnyH_take (i := 11) (oi := ⟨some 3, .assign (.tmp 27), 4, _, _, none⟩) (v := ?vq17) rfl (by kernel_rfl) (by kernel_rfl) (by kernel_rfl) (fun _ _ _ h => h) (Or.inl ⟨by rfl, fun W hW => ?_⟩) (by assumption) ?_
  rotate_left
  · go_simp
    with_reducible rfl
  try simp only [Act.put, lA, l0, lS]
  refine wpAnyH_done (by kernel_rfl) ?_ _
  refine NoPanic.normal ?_
  exact hK _ _ _ _ _ _ _ _ _ _ _ _ K15
end Go.Proofs.YtbllmpcpfmlemaaGreat
namespace Go.Proofs.YtbllmpcpfmlemaaGreat
open Go.RowKit
theorem beq_dec (s t : Str) : (s == t) = decide (s = t) := by
  by_cases h : s = t <;> simp [h]
theorem rdC_one (sl : Str → SlV) (r : Rd) : ∀ u ∈ rdC sl r, u.oneCell' = true := by
  intro u hu
  cases r with
  | cell k v => simp [rdC] at hu; rcases hu with rfl | rfl | rfl | rfl <;> rfl
  | keys p l => simp [rdC] at hu; rcases hu with rfl | rfl | rfl | rfl <;> rfl
section
variable {w : World} {c m : Nat} {Mo : Int → Mem} {L : Nat → Option (Int × Nat)} {F G : List Nat} {C : St} {P : List Str}
set_option maxRecDepth 100000 in
set_option maxHeartbeats 3200000 in
theorem stale_any (h : RepM w c m Mo L F G C) (hW : WF P C) (hP : PoolOk P) {x : One} (hx : x ∈ C) (h0 : x.id ≠ 0) (g : Nat) (hg : w.cell? ⟨g, 0, none⟩ = some (.pointer (some ⟨(Mo x.id).b, 0, none⟩))) {r : Rd} (hr : r ∈ x.rd) {a0 a1 a2 a3 : Value} (ha : rdC (Mo x.id).sl r = [a0, a1, a2, a3]) :
    Calls Tryz.prog 55 #[.agg #[a0, a1, a2, a3], .pointer (some ⟨g, 0, none⟩)] w fun e w' => e = .returned (.bool (!okRd C x.par r)) ∧ Keeps [] w w' := by
  have hok := hW.ok x hx
  have o := h.one x hx
  obtain ⟨y, hy, hyi⟩ := has_iff.1 (hW.tree.par hx h0)
  have hpp : parOf Mo x = some (Mo x.par).b := by unfold parOf; rw [if_neg h0]
  have g0 : w.cell? ⟨(Mo x.id).b, 0, none⟩ = some (.pointer (some ⟨(Mo x.par).b, 0, none⟩)) := by
    have : w.cell? ⟨(Mo x.id).b, 0, none⟩ = some (pv (parOf Mo x)) := o.b.cell 0
    rw [hpp] at this
    exact this
  have HR := Lib.hid h
  have HW := Lib.hid hW
  have HP := Lib.hid hP
  have HG := Lib.hid hg
  have HG0 := Lib.hid g0
  cases r with
  | cell k v =>
    have hk : kS.ok k := hP.k k (hok.cp k (mem_cellKeys hr))
    obtain ⟨rfl, rfl, rfl, rfl⟩ : Value.int .i64 0 = a0 ∧ sv k = a1 ∧ sv v = a2 ∧ Value.slice none 0 0 = a3 := by simpa [rdC] using ha
    have hC : ∀ W, Keeps [] w W → Calls Tryz.prog 56 #[.pointer (some ⟨(Mo x.par).b, 0, none⟩), sv k] W fun e w' => e = .returned (sv (sees C x.par k)) ∧ w' = W := fun W hk' => by
      have := sees_any (HR.out.keep0 hk') HW.out.tree hy k hk
      rw [hyi] at this
      exact this
    have HC := Lib.hid hC
    have KA : Hid (Keeps [] w (w.alloc (.cells #[.int .i64 0, sv k, sv v, .slice none 0 0] 34))) := Lib.hid ((Keeps.refl [] w).alloc _)
    have BA := Lib.hid (Blk.new w 34 #[.int .i64 0, sv k, sv v, .slice none 0 0])
    have hV : Hid ((!okRd C x.par (.cell k v)) = !(sees C x.par k == v)) := Lib.hid (by rw [beq_dec]; rfl)
    clear h hW hx hok o hpp g0 ha hC hg hP
    generalize hb : (Mo x.id).b = xb at HG HG0
    generalize hb2 : (Mo x.par).b = pb at HG0 HC
    clear hb hb2
    go_enter Tryz.func55, Tryz.ntmps55
    go_upto_region 1 with fail
    generalize w.alloc (.cells #[.int .i64 0, sv k, sv v, .slice none 0 0] 34) = w1 at KA BA ⊢
    generalize w.heap.size = rb at BA ⊢
    have b0 : w1.cell? ⟨rb, 0, none⟩ = some (.int .i64 0) := BA.out.cell 0
    go_upto_region 2 with fail
    refine stale2_any w1 g xb pb rb (.int .i64 0) (.slice none 0 0) k v (sees C x.par k) _ (fun W hW => ⟨((KA.out.trans hW (by simp)).cell (p := ⟨g, 0, none⟩) (cell_lt HG.out) (by simp)).trans HG.out, ((KA.out.trans hW (by simp)).cell (p := ⟨xb, 0, none⟩) (cell_lt HG0.out) (by simp)).trans HG0.out, BA.out.keep hW (by simp)⟩) (fun W hW => HC.out W (KA.out.trans hW (by simp))) _ _ _ _ _ _ _ _ _ _ _ _ _ _ _ _ _ _ _ _ _ _ _ _ _ _ ?_
    intro v7 v8 v9 v10 v11 v12 v13 v14 v15 v16 W kW
    have KW := Lib.hid (KA.out.trans kW (by simp))
    clear kW
    go_wp2_with fail
    go_ret
    exact ⟨ret_bool hV.out.symm, KW.out⟩
  | keys p l =>
    have hk : kS.ok p := hP.k p (hok.pp p (mem_prefixes hr))
    obtain ⟨rfl, rfl, rfl, rfl⟩ : Value.int .i64 1 = a0 ∧ sv p = a1 ∧ sv [] = a2 ∧ ((Mo x.id).sl p).v = a3 := by simpa [rdC] using ha
    have hs := o.s p l hr
    obtain ⟨As, cs, hv, -, -, -⟩ := own_shape hs
    rw [hv] at hs
    have hll : l.length ≤ 1000000 := hP.le (hok.ls p l hr).1 (fun s hs => ((hok.ls p l hr).2 s hs).1)
    have HAS := Lib.hid (AtS.of_own hs hll)
    have hsl : (seesKeys C x.par p).length ≤ 1000000 := hP.le (seesKeys_ok hW.ok _ _).1 (fun s hs => ((seesKeys_ok hW.ok _ _).2 s hs).1)
    have hC : ∀ W, Keeps [] w W → Calls Tryz.prog 58 #[.pointer (some ⟨(Mo x.par).b, 0, none⟩), sv p] W fun e w' => ∃ v, e = .returned v ∧ w'.ownsRow 0 9 1 v (seesKeys C x.par p).length (vs (seesKeys C x.par p)) ∧ Keeps [] W w' ∧ ∀ g ∈ fp v, W.heap.size ≤ g := fun W hk' => by
      have := seesKeys_any (HR.out.keep0 hk') HW.out HP.out hy p hk
      rw [hyi] at this
      exact this
    have HC := Lib.hid hC
    rw [hv]
    have KA : Hid (Keeps [] w (w.alloc (.cells #[.int .i64 1, sv p, sv [], .slice As l.length cs] 34))) := Lib.hid ((Keeps.refl [] w).alloc _)
    have BA := Lib.hid (Blk.new w 34 #[.int .i64 1, sv p, sv [], .slice As l.length cs])
    obtain ⟨t, ht⟩ : ∃ t, decide (seesKeys C x.par p = l) = t := ⟨_, rfl⟩
    have hV : Hid ((!okRd C x.par (.keys p l)) = !t) := Lib.hid (by rw [← ht]; rfl)
    have HT := Lib.hid ht
    clear h hW hx hok o hpp g0 ha hC hg hP hs hv ht
    generalize hb : (Mo x.id).b = xb at HG HG0
    generalize hb2 : (Mo x.par).b = pb at HG0 HC
    clear hb hb2
    go_enter Tryz.func55, Tryz.ntmps55
    go_upto_region 1 with fail
    generalize w.alloc (.cells #[.int .i64 1, sv p, sv [], .slice As l.length cs] 34) = w1 at KA BA ⊢
    generalize w.heap.size = rb at BA ⊢
    have b0 : w1.cell? ⟨rb, 0, none⟩ = some (.int .i64 1) := BA.out.cell 0
    go_upto_region 3 with fail
    refine stale3_any w1 g xb pb rb (.int .i64 1) (sv []) p l (seesKeys C x.par p) As cs t _ (fun W hW => ⟨((KA.out.trans hW (by simp)).cell (p := ⟨g, 0, none⟩) (cell_lt HG.out) (by simp)).trans HG.out, ((KA.out.trans hW (by simp)).cell (p := ⟨xb, 0, none⟩) (cell_lt HG0.out) (by simp)).trans HG0.out, BA.out.keep hW (by simp)⟩) (fun W hW => HAS.out.keep (KA.out.trans hW (by simp))) hsl HT.out (fun W hW => HC.out W (KA.out.trans hW (by simp))) _ _ _ _ _ _ _ _ _ _ _ _ _ _ _ _ _ _ _ _ _ _ _ _ _ _ ?_
    intro v17 v18 v19 v20 v21 v22 v23 v24 v25 v26 v27 W kW
    have KW := Lib.hid (KA.out.trans kW (by simp))
    clear kW
    go_wp2_with fail
    go_ret
    exact ⟨ret_bool hV.out.symm, KW.out⟩
end
end Go.Proofs.YtbllmpcpfmlemaaGreat
namespace Go.Proofs.YtbllmpcpfmlemaaGreat
open Go.RowKit
theorem four {l : List Value} (h : l.length = 4) : ∃ a b c d, l = [a, b, c, d] := by
  match l, h with
  | [a, b, c, d], _ => exact ⟨a, b, c, d, rfl⟩
section
variable {w : World} {c m : Nat} {Mo : Int → Mem} {L : Nat → Option (Int × Nat)} {F G : List Nat} {C : St} {P : List Str}
set_option maxRecDepth 100000 in
set_option maxHeartbeats 3200000 in
theorem idxRd_any (h : RepM w c m Mo L F G C) (hW : WF P C) (hP : PoolOk P) {x : One} (hx : x ∈ C) (h0 : x.rd ≠ [] → x.id ≠ 0) (g : Nat) (hg : w.cell? ⟨g, 0, none⟩ = some (.pointer (some ⟨(Mo x.id).b, 0, none⟩))) :
    Calls Tryz.prog 91 #[(Mo x.id).row, .func (.func 55) #[] #[.pointer (some ⟨g, 0, none⟩)]] w fun e w' => (∃ z : Int, e = .returned (.int .i64 z) ∧ decide (z ≥ 0) = !x.rd.all (okRd C x.par)) ∧ Keeps [] w w' := by
  have o := h.one x hx
  have hrd := rd_le hW hP hx
  have ho := o.o
  obtain ⟨A, cap, hrow, hcap, hmax, hA⟩ := own_shape ho
  rw [hrow] at ho ⊢
  have HO := Lib.hid ho
  have HA := Lib.hid hA
  have HR := Lib.hid h
  have HW := Lib.hid hW
  have HP := Lib.hid hP
  have HG := Lib.hid hg
  have H0 := Lib.hid h0
  clear h hW hP hg h0 o ho hrow hA hcap hmax
  obtain ⟨n, hn⟩ : ∃ n, x.rd.length = n := ⟨_, rfl⟩
  rw [hn] at hrd HO HA ⊢
  have HN := Lib.hid hn
  clear hn
  go_enter Tryz.func91, Tryz.ntmps91
  go_wp2_with fail
  go_loopw [8] (fun iv wr => ∃ k : Nat, k ≤ n ∧ iv = .int .i64 k ∧ (∀ j (hj : j < x.rd.length), j < k → okRd C x.par x.rd[j] = true) ∧ Keeps [] w wr) (fun iv _ => n - (intOf iv).toNat)
  case atStart => exact ⟨0, by omega, rfl, fun j _ h => absurd h (by omega), Keeps.refl _ _⟩
  case round =>
    obtain ⟨k, hk, rfl, hall, kp⟩ := hrel
    have HALL := Lib.hid hall
    have KP := Lib.hid kp
    have hor := own_keep HO.out kp (by simp)
    clear hall kp
    have i0 : (0 : Int) ≤ (k : Int) := by omega
    by_cases hlt : k < n
    · have hkl : k < x.rd.length := by rw [HN.out]; exact hlt
      obtain ⟨b, hAb⟩ := HA.out (by omega)
      subst hAb
      have i1 : (k : Int) < (n : Int) := by omega
      obtain ⟨a0, a1, a2, a3, h4⟩ := four (rdC_len (Mo x.id).sl x.rd[k])
      have hcell : ∀ j (_ : j < 4) u, (rdC (Mo x.id).sl x.rd[k])[j]? = some u → wr.cell? ⟨b, k * 4 + j, none⟩ = some u := fun j hj u hu => own_cell hor (by rw [rw_at (rdC_len _) hkl hj]; exact hu)
      rw [h4] at hcell
      have c0 : wr.cell? ⟨b, k * 4, none⟩ = some a0 := hcell 0 (by omega) _ rfl
      have c1 : wr.cell? ⟨b, k * 4 + 1, none⟩ = some a1 := hcell 1 (by omega) _ rfl
      have c2 : wr.cell? ⟨b, k * 4 + 2, none⟩ = some a2 := hcell 2 (by omega) _ rfl
      have c3 : wr.cell? ⟨b, k * 4 + 3, none⟩ = some a3 := hcell 3 (by omega) _ rfl
      have hst := stale_any (HR.out.keep0 KP.out) HW.out HP.out hx (H0.out (by intro e; rw [e] at hkl; simp at hkl)) g ((KP.out.cell (p := ⟨g, 0, none⟩) (cell_lt HG.out) (by simp)).trans HG.out) (List.getElem_mem hkl) h4
      cases hv : okRd C x.par x.rd[k] with
      | true =>
        have HN2 : Hid (∀ j (hj : j < x.rd.length), j < k + 1 → okRd C x.par x.rd[j] = true) := Lib.hid (fun j hj h => by
          by_cases hjk : j < k
          · exact HALL.out j hj hjk
          · obtain rfl : j = k := by omega
            exact hv)
        rw [hv] at hst
        have hst' : Calls Tryz.prog 55 #[.agg #[a0, a1, a2, a3], .pointer (some ⟨g, 0, none⟩)] wr fun e w' => e = .returned (.bool false) ∧ Keeps [] wr w' := hst
        clear hcell hst hv h4 hor HALL
        go_wp2_with fail
        refine hst'.mono ?_
        rintro e w2 ⟨rfl, k2⟩
        have K2 := Lib.hid (KP.out.trans k2 (by simp))
        clear k2 hst'
        go_wp2_with fail
        exact ⟨⟨k + 1, by omega, rfl, HN2.out, K2.out⟩, by simp only [intOf]; omega⟩
      | false =>
        have hall2 : x.rd.all (okRd C x.par) = false := by
          rw [Bool.eq_false_iff]
          intro hh
          have := List.all_eq_true.1 hh _ (List.getElem_mem hkl)
          rw [hv] at this
          cases this
        have HF := Lib.hid hall2
        rw [hv] at hst
        have hst' : Calls Tryz.prog 55 #[.agg #[a0, a1, a2, a3], .pointer (some ⟨g, 0, none⟩)] wr fun e w' => e = .returned (.bool true) ∧ Keeps [] wr w' := hst
        clear hcell hst hv h4 hor HALL hall2
        go_wp2_with fail
        refine hst'.mono ?_
        rintro e w2 ⟨rfl, k2⟩
        have K2 := Lib.hid (KP.out.trans k2 (by simp))
        clear k2 hst'
        go_wp2_with fail
        go_ret
        refine ⟨⟨(k : Int), rfl, ?_⟩, K2.out⟩
        rw [HF.out]
        simp
    · obtain rfl : k = n := by omega
      have i1 : ¬ ((k : Int) < (k : Int)) := by omega
      have hall2 : x.rd.all (okRd C x.par) = true := by
        refine List.all_eq_true.2 (fun r hr => ?_)
        obtain ⟨j, hj, rfl⟩ := List.getElem_of_mem hr
        exact HALL.out j hj (by rw [← HN.out]; exact hj)
      have HF := Lib.hid hall2
      clear hor HALL hall2
      go_wp2_with fail
      go_ret
      refine ⟨⟨-1, rfl, ?_⟩, KP.out⟩
      rw [HF.out]
      rfl
set_option maxRecDepth 100000 in
set_option maxHeartbeats 3200000 in
theorem contRd_any (h : RepM w c m Mo L F G C) (hW : WF P C) (hP : PoolOk P) {x : One} (hx : x ∈ C) (h0 : x.rd ≠ [] → x.id ≠ 0) (g : Nat) (hg : w.cell? ⟨g, 0, none⟩ = some (.pointer (some ⟨(Mo x.id).b, 0, none⟩))) :
    Calls Tryz.prog 59 #[(Mo x.id).row, .func (.func 55) #[] #[.pointer (some ⟨g, 0, none⟩)]] w fun e w' => e = .returned (.bool (!x.rd.all (okRd C x.par))) ∧ Keeps [] w w' := by
  have hi := idxRd_any h hW hP hx h0 g hg
  have ho := (h.one x hx).o
  obtain ⟨A, cap, hrow, -, -, -⟩ := own_shape ho
  rw [hrow] at hi ⊢
  obtain ⟨t, ht⟩ : ∃ t, (!x.rd.all (okRd C x.par)) = t := ⟨_, rfl⟩
  rw [ht] at hi ⊢
  clear h hW hx h0 hg ho hrow ht hP
  go_enter Tryz.func59, Tryz.ntmps59
  go_wp2_with fail
  refine hi.mono ?_
  rintro e w1 ⟨⟨z, rfl, hz⟩, k1⟩
  have HZ := Lib.hid hz
  have K1 := Lib.hid k1
  clear hz k1 hi
  go_wp2_with fail
  go_ret
  exact ⟨ret_bool HZ.out, K1.out⟩
end
section
variable {w : World} {c : Nat} {F G : List Nat} {C : St} {P : List Str}
set_option maxRecDepth 100000 in
set_option maxHeartbeats 3200000 in
theorem valid_any (h : Cs w c F G C) (hW : WF P C) (hP : PoolOk P) {i : Int} (hi : I64 i) :
    Calls Tryz.prog 14 #[.pointer (some ⟨c, 0, none⟩), .int .i64 i] w fun e w' => e = .returned (.bool (validP C i)) ∧ Keeps [] w w' := by
  obtain ⟨m, Mo, L, h⟩ := h
  have f0 : w.cell? ⟨c, 0, none⟩ = some (.map (some m)) := h.cb.cell 0
  have l0 := h.look hi.1 hi.2
  cases hh : has C i with
  | false =>
    have e0 : validP C i = false := by unfold validP; rw [find_none.2 hh]
    rw [e0]
    simp only [hh] at l0
    have l0' : (Instr.lookup 63 (.map (some m)) (.int .i64 i) false).run Tryz.prog w = .ok (.pointer none) w := l0
    clear h l0 hh hi e0
    go_enter Tryz.func14, Tryz.ntmps14
    go_wp2_with fail
    go_ret
    exact ⟨rfl, (Keeps.refl [] w).alloc _⟩
  | true =>
    obtain ⟨x, hx⟩ := has_find hh
    obtain ⟨hxC, hxi⟩ := find_mem hx
    obtain ⟨o, hlab⟩ := h.at_ hx
    simp only [hh, if_true] at l0
    have l0' : (Instr.lookup 63 (.map (some m)) (.int .i64 i) false).run Tryz.prog w = .ok (.pointer (some ⟨(Mo i).b, 0, none⟩)) w := l0
    have e0 : validP C i = x.rd.all (okRd C x.par) := by unfold validP; rw [hx]
    rw [e0]
    obtain ⟨t, ht⟩ : ∃ t, x.rd.all (okRd C x.par) = t := ⟨_, rfl⟩
    rw [ht]
    have HT := Lib.hid ht
    clear l0 hh e0 ht
    go_enter Tryz.func14, Tryz.ntmps14
    go_upto_region 2 with fail
    have KA : Hid (Keeps [] w (w.alloc (.cells #[.pointer (some ⟨(Mo i).b, 0, none⟩)] 61))) := Lib.hid ((Keeps.refl [] w).alloc _)
    have BA := Lib.hid (Blk.new w 61 #[.pointer (some ⟨(Mo i).b, 0, none⟩)])
    have hw0 : w.heap.size < (w.alloc (.cells #[.pointer (some ⟨(Mo i).b, 0, none⟩)] 61)).heap.size := by simp
    generalize w.alloc (.cells #[.pointer (some ⟨(Mo i).b, 0, none⟩)] 61) = w1 at KA BA hw0 ⊢
    generalize w.heap.size = g at BA hw0 ⊢
    have hr1 := h.keep0 KA.out
    have c0 : w1.cell? ⟨g, 0, none⟩ = some (.pointer (some ⟨(Mo i).b, 0, none⟩)) := BA.out.cell 0
    have c4 : w1.cell? ⟨(Mo i).b, 4, none⟩ = some (Mo i).row := (hr1.at_ hx).1.b.cell 4
    have hct := contRd_any hr1 hW hP hxC (fun h e => h (hW.tree.rd0 hxC e)) g (by rw [hxi]; exact c0)
    rw [hxi] at hct
    have ho := (hr1.at_ hx).1.o
    obtain ⟨A, cap, hrow, -, -, -⟩ := own_shape ho
    rw [hrow] at c4 hct
    rw [HT.out] at hct
    clear h hr1 hW hP hxC hxi hx o hlab ho hrow
    go_wp2_with fail
    refine hct.mono ?_
    rintro e w2 ⟨rfl, k2⟩
    have K2 := Lib.hid (KA.out.trans k2 (by simp))
    clear k2 hct
    go_wp2_with fail
    go_ret
    exact ⟨rfl, K2.out⟩
end
end Go.Proofs.YtbllmpcpfmlemaaGreat
