/- A world of sheets: New, valid, place. -/
import Derived.Test.YtiffjaociblboaaW16
namespace Go.Proofs.Ytiffjaociblboaa
open Go.RowKit

/-- The cells of a world. -/
def wcs (m1 m2 m3 : Nat) : Array Value := #[.map (some m1), .map (some m2), .map (some m3), .int .i64 0]
set_option maxRecDepth 100000 in
set_option maxHeartbeats 3200000 in
theorem new_any (w : World) : Calls Try.prog 24 #[] w fun e w' => ∃ fb m1 m2 m3, e = .returned (.pointer (some ⟨fb, 0, none⟩)) ∧ Blk w' fb 68 (wcs m1 m2 m3) ∧ MO w' m2 #[] 0 ∧ Keeps [] w w' ∧ w.heap.size ≤ m2 ∧ w.heap.size ≤ fb := by
  have hmm := @run_makeMap Try.prog
  go_enter Try.func24, Try.ntmps24
  go_wp2_with fail
  go_ret
  have h0 : MO ((w.alloc (.map #[] 0)).alloc (.map #[] 0)) (w.heap.size + 1) #[] 0 := by
    have h := heap_alloc_new (w.alloc (.map #[] 0)) (.map #[] 0)
    simpa [MO] using h
  refine ⟨w.heap.size + 3, w.heap.size, w.heap.size + 1, w.heap.size + 2, rfl, ?_, (h0.keep ((Keeps.refl [] _).alloc _) (by simp)).keep ((Keeps.refl [] _).alloc _) (by simp), ((((Keeps.refl [] w).alloc _).alloc _).alloc _).alloc _, by omega, by omega⟩
  have h := Blk.new (((w.alloc (.map #[] 0)).alloc (.map #[] 0)).alloc (.map #[] 0)) 68 (wcs w.heap.size (w.heap.size + 1) (w.heap.size + 2))
  simpa [wcs] using h
set_option maxRecDepth 100000 in
set_option maxHeartbeats 3200000 in
theorem wvalid_any (w : World) (x : Int) (h0 : 0 ≤ x) (h1 : x < 16384) : Calls Try.prog 33 #[.int .i64 x] w fun e w' => e = .returned (.bool true) ∧ w' = w := by
  go_enter Try.func33, Try.ntmps33
  go_wp2_with fail
  go_ret
  exact ⟨rfl, rfl⟩
theorem step_upd66 {ops : Array Oper} {o : Oper} {a : Act} {w : World} {K : Act → World → Prop} {Q : Exit → Act → World → Prop} {E : Prop} (hg : o.guard = none) (mo xo vo : Operand) (hop : o.op = Op.mapUpdate 66 mo xo vo)
    (b clk : Nat) (hm : a.eval mo = .map (some b)) (h : MO w b #[] clk) (k : ByteArray) (hx : a.eval xo = .string k) (v : Value) (hv : a.eval vo = v)
    (hK : ∀ w', MO w' b #[⟨.string k, v, clk⟩] (clk + 1) → Keeps [b] w w' → K (a.put o.dst undef) w') : if Region.wanted o (yielded ops a.tmps) = true then Oper.wp Try.prog o a w K Q else E := by
  have hw : Region.wanted o (yielded ops a.tmps) = true := by simp [Region.wanted, hg]
  rw [if_pos hw]
  obtain ⟨h1, h2⟩ := h.upd #[⟨.string k, v, clk⟩] (clk + 1)
  unfold Oper.wp
  simp [execOp, hop, hm, hx, hv, upd66 k v h, Result.andThen]
  exact hK _ h1 h2
noncomputable def set8C : Code := ((Try.f34.body.bind (theRegion 8)).getD .skip)
set_option maxRecDepth 1000000 in
set_option maxHeartbeats 1600000 in
set_option linter.unusedSimpArgs false in
theorem set8_any (w : World) (fb m2 m4 : Nat) (s : ByteArray) (K : Exit → Act → World → Prop)
    (hS : ∀ W, Keeps [] w W → W.cell? ⟨fb, 1, none⟩ = some (.map (some m2)) ∧ MO W m2 #[] 0) (hs : s.size ≤ 1000)
    (u2 u3 u4 u5 u6 u7 u9 u10 u11 u12 u13 u14 u15 u16 u17 u18 u19 u20 u21 u22 u23 u24 u25 u26 u27 u28 u29 u30 u31 u32 u33 u34 u35 u36 u37 u38 u39 u40 : Value)
    (hK : ∀ (v31 v32 v33 v34 v35 v36 v37 : Value) (W : World), MO W m2 #[⟨.string s, .map (some m4), 0⟩] 1 → Keeps [m2] w W → K .normal ⟨#[.pointer (some ⟨fb, 0, none⟩), .string s, u2, u3, u4, u5, u6, u7, .map (some m4), u9, u10, u11, u12, u13, u14, u15, u16, u17, u18, u19, u20, u21, u22, u23, u24, u25, u26, u27, u28, u29, u30, v31, v32, v33, v34, v35, v36, v37, u38, u39, u40], []⟩ W) :
    Code.wp Try.prog set8C K ⟨#[.pointer (some ⟨fb, 0, none⟩), .string s, u2, u3, u4, u5, u6, u7, .map (some m4), u9, u10, u11, u12, u13, u14, u15, u16, u17, u18, u19, u20, u21, u22, u23, u24, u25, u26, u27, u28, u29, u30, u31, u32, u33, u34, u35, u36, u37, u38, u39, u40], []⟩ w := by
  have HS := Lib.hid hS
  clear hS
  conv => arg 2; whnf
  dsimp only at hK ⊢
  refine wp_region_noPanic ?_
  refine wp_region_last (S := fun W => W.cell? ⟨fb, 1, none⟩ = some (.map (some m2)) ∧ MO W m2 #[] 0) 7 (by kernel_rfl) (HS.out _ ((Keeps.refl [] w).drew)) (fun hHeld => ?_)
  obtain ⟨w0, hw0⟩ : ∃ w0, w.drew = w0 := ⟨_, rfl⟩
  try rw [hw0] at hHeld
  rw [hw0]
  have K0 : Keeps [] w w0 := by rw [← hw0]; exact (Keeps.refl [] w).drew
  clear hw0
  refine wpG_take (nx := [1, 2, 3, 7, 5, 7, 7]) (i := 0) (oi := ⟨some 31, Op.move (Operand.tmp 0), 42, _, _, none⟩) (v := ?vq1) (by kernel_rfl) rfl (by decide) (by kernel_rfl) (by kernel_rfl) (by kernel_rfl) (fun _ _ _ h => h) (Or.inl ⟨by rfl, fun W hW => ?_⟩) (by assumption) ?_
  rotate_left
  · go_simp
    with_reducible rfl
  try simp only [Act.put, List.setIfInBounds_toArray, List.set_cons_zero, List.set_cons_succ]
  refine wpG_take (nx := [1, 2, 3, 7, 5, 7, 7]) (i := 1) (oi := ⟨some 32, Op.nilCheck (Operand.tmp 31), 0, _, _, none⟩) (v := ?vq2) (by kernel_rfl) rfl (by decide) (by kernel_rfl) (by kernel_rfl) (by kernel_rfl) (fun _ _ _ h => h) (Or.inl ⟨by rfl, fun W hW => ?_⟩) (by assumption) ?_
  rotate_left
  · go_simp
    with_reducible rfl
  try simp only [Act.put, List.setIfInBounds_toArray, List.set_cons_zero, List.set_cons_succ]
  refine wpG_take (nx := [1, 2, 3, 7, 5, 7, 7]) (i := 2) (oi := ⟨some 33, Op.fieldAddr 68 (Operand.tmp 32) 1, 0, _, _, none⟩) (v := ?vq3) (by kernel_rfl) rfl (by decide) (by kernel_rfl) (by kernel_rfl) (by kernel_rfl) (fun _ _ _ h => h) (Or.inl ⟨by rfl, fun W hW => ?_⟩) (by assumption) ?_
  rotate_left
  · go_simp
    with_reducible rfl
  try simp only [Act.put, List.setIfInBounds_toArray, List.set_cons_zero, List.set_cons_succ]
  refine wpG_take (nx := [1, 2, 3, 7, 5, 7, 7]) (i := 3) (oi := ⟨some 34, Op.load 66 (Operand.tmp 33), 66, _, _, none⟩) (v := .map (some m2)) (by kernel_rfl) rfl (by decide) (by kernel_rfl) (by kernel_rfl) (by kernel_rfl) (fun _ _ _ h => h) (Or.inl ⟨by rfl, fun W hW => ?_⟩) (by assumption) ?_
  · (have hW1 := hW.1; clear hW; go_simp)
  try simp only [Act.put, List.setIfInBounds_toArray, List.set_cons_zero, List.set_cons_succ]
  refine wpG_take (nx := [1, 2, 3, 7, 5, 7, 7]) (i := 4) (oi := ⟨some 35, Op.move (Operand.tmp 1), 9, _, _, none⟩) (v := ?vq4) (by kernel_rfl) rfl (by decide) (by kernel_rfl) (by kernel_rfl) (by kernel_rfl) (fun _ _ _ h => h) (Or.inl ⟨by rfl, fun W hW => ?_⟩) (by assumption) ?_
  rotate_left
  · go_simp
    with_reducible rfl
  try simp only [Act.put, List.setIfInBounds_toArray, List.set_cons_zero, List.set_cons_succ]
  refine wpG_take (nx := [1, 2, 3, 7, 5, 7, 7]) (i := 6) (oi := ⟨some 37, Op.move (Operand.tmp 8), 72, _, _, none⟩) (v := ?vq5) (by kernel_rfl) rfl (by decide) (by kernel_rfl) (by kernel_rfl) (by kernel_rfl) (fun _ _ _ h => h) (Or.inl ⟨by rfl, fun W hW => ?_⟩) (by assumption) ?_
  rotate_left
  · go_simp
    with_reducible rfl
  try simp only [Act.put, List.setIfInBounds_toArray, List.set_cons_zero, List.set_cons_succ]
  refine wpG_ready (rs := [5]) (by kernel_rfl) (by simp) ?_
  refine AllG.cons (o := ⟨some 36, Op.call { callee := Callee.value (Operand.func 37), args := #[Operand.tmp 35], argTypes := #[9] }, 9, _, _, none⟩) rfl (fun KK hKK => ?_) AllG.nil
  refine step_callW (by rfl) 37 _ _ rfl #[.string s] (by first | (simp [Act.eval]; done) | (simp [Act.eval, Act.put]; done)) (enters_of Try.func37 (by kernel_rfl) rfl) (clone37_any _ s hs) ?_
  rintro e W6 ⟨rfl, k7⟩
  refine ⟨_, rfl, ?_⟩
  have K8 : Keeps [] w W6 := K0.trans k7 (by simp)
  refine hKK.out _ _ (HS.out _ K8) (fun hHeld => ?_)
  clear hKK KK
  try simp only [Act.put, List.setIfInBounds_toArray, List.set_cons_zero, List.set_cons_succ]
  refine wpG_ready (rs := [7]) (by kernel_rfl) (by simp) ?_
  refine AllG.last (o := ⟨none, Op.mapUpdate 66 (Operand.tmp 34) (Operand.tmp 36) (Operand.tmp 37), 0, _, _, none⟩) rfl (fun KK hKK => ?_)
  refine step_upd66 rfl _ _ _ rfl m2 0 (by first | (simp [Act.eval]; done) | (simp [Act.eval, Act.put]; done)) (HS.out _ K8).2 s (by first | (simp [Act.eval]; done) | (simp [Act.eval, Act.put]; done)) (.map (some m4)) (by first | (simp [Act.eval]; done) | (simp [Act.eval, Act.put]; done)) ?_
  intro W9 mo10 k11
  have K9 : Keeps [m2] w W9 := (K8.mono (by simp)).trans k11 (by simp)
  refine hKK.out _ _ ?_
  clear hKK KK
  try simp only [Act.put, List.setIfInBounds_toArray, List.set_cons_zero, List.set_cons_succ]
  refine wpG_done (by kernel_rfl) ?_ _
  refine NoPanic.normal ?_
  exact hK _ _ _ _ _ _ _ _ mo10 K9
end Go.Proofs.Ytiffjaociblboaa
