/- alike: its drawn statement; its walk (printed by z6gen.py). -/
import Derived.Test.YtbllmpcpfmlemaaGreatZ5
namespace Go.Proofs.YtbllmpcpfmlemaaGreat
open Go.RowKit

noncomputable def alikeR7C : Code := ((Tryz.f35.body.bind (theRegion 7)).getD .skip)
set_option maxRecDepth 1000000 in
set_option maxHeartbeats 1600000 in
set_option linter.unusedSimpArgs false in
theorem alikeR7_any (w : World) (c d g1 n d1 k : Nat) (id : Int) (ky s : Str) (K : Exit → Act → World → Prop)
    (hS : ∀ W, Keeps [] w W → W.cell? ⟨g1, k, none⟩ = some (sv ky))
    (hC : ∀ W, Keeps [] w W → Calls Tryz.prog 31 #[.pointer (some ⟨c, 0, none⟩), .int .i64 id, sv ky] W fun e w' => e = .returned (sv s) ∧ Keeps [] W w')
    (hD : ∀ W, Keeps [] w W → Calls Tryz.prog 31 #[.pointer (some ⟨d, 0, none⟩), .int .i64 id, sv ky] W fun e w' => e = .returned (sv s) ∧ Keeps [] W w')
    (i0 : (0 : Int) ≤ (k : Int)) (i1 : (k : Int) < (n : Int))
    (u3 u4 u5 u6 u9 u10 u11 u12 u13 u14 u15 u16 u17 u18 u19 u20 u21 u22 u23 u24 u25 u26 u27 u28 u29 u30 u31 u32 u33 u34 u35 u36 u37 u38 u39 u40 u41 u42 u43 u44 u45 u46 u47 u48 u49 u50 u51 u52 u53 u54 u55 u56 u57 u58 u59 u60 u61 u62 u63 u64 u65 u66 u67 : Value)
    (hK : ∀ (v53 v54 v55 v56 v57 v58 v59 v60 v61 v62 v63 v64 v65 v66 : Value) (W : World), Keeps [] w W → K .normal ⟨#[.pointer (some ⟨c, 0, none⟩), .pointer (some ⟨d, 0, none⟩), .int .i64 id, u3, u4, u5, u6, .slice (some ⟨g1, 0, none⟩) n d1, .int .i64 (k : Nat), u9, u10, u11, u12, u13, u14, u15, u16, u17, u18, u19, u20, u21, u22, u23, u24, u25, u26, u27, u28, u29, u30, u31, u32, u33, u34, u35, u36, u37, u38, u39, u40, u41, u42, u43, u44, u45, u46, u47, u48, u49, u50, u51, u52, v53, v54, v55, v56, v57, v58, v59, v60, v61, v62, v63, v64, v65, v66, .bool false], []⟩ W) :
    Code.wp Tryz.prog alikeR7C K ⟨#[.pointer (some ⟨c, 0, none⟩), .pointer (some ⟨d, 0, none⟩), .int .i64 id, u3, u4, u5, u6, .slice (some ⟨g1, 0, none⟩) n d1, .int .i64 (k : Nat), u9, u10, u11, u12, u13, u14, u15, u16, u17, u18, u19, u20, u21, u22, u23, u24, u25, u26, u27, u28, u29, u30, u31, u32, u33, u34, u35, u36, u37, u38, u39, u40, u41, u42, u43, u44, u45, u46, u47, u48, u49, u50, u51, u52, u53, u54, u55, u56, u57, u58, u59, u60, u61, u62, u63, u64, u65, u66, u67], []⟩ w := by
  have HS := Lib.hid hS
  have HC := Lib.hid hC
  have HD := Lib.hid hD
  clear hS hC hD
  conv => arg 2; whnf
  try dsimp only at hK ⊢
  refine wp_region_noPanic ?_
  refine wp_region_held_drew (S := fun W => W.cell? ⟨g1, k, none⟩ = some (sv ky)) (by kernel_rfl) (HS.out _ ((Keeps.refl [] w).drew)) (fun hHeld => ?_)
  obtain ⟨w0, hw0⟩ : ∃ w0, w.drew = w0 := ⟨_, rfl⟩
  try rw [hw0] at hHeld
  rw [hw0]
  have K0 : Keeps [] w w0 := by rw [← hw0]; exact (Keeps.refl [] w).drew
  clear hw0
  refine wpAnyH_take (i := 0) (oi := ⟨some 53, Op.move (Operand.tmp 0), 24, _, _, none⟩) (v := ?vq1) rfl (by kernel_rfl) (by kernel_rfl) (by kernel_rfl) (fun _ _ _ h => h) (Or.inl ⟨by rfl, fun W hW => ?_⟩) (by assumption) ?_
  rotate_left
  · go_simp
    with_reducible rfl
  try simp only [Act.put, List.setIfInBounds_toArray, List.set_cons_zero, List.set_cons_succ]
  refine wpAnyH_take (i := 1) (oi := ⟨some 54, Op.move (Operand.tmp 2), 3, _, _, none⟩) (v := ?vq2) rfl (by kernel_rfl) (by kernel_rfl) (by kernel_rfl) (fun _ _ _ h => h) (Or.inl ⟨by rfl, fun W hW => ?_⟩) (by assumption) ?_
  rotate_left
  · go_simp
    with_reducible rfl
  try simp only [Act.put, List.setIfInBounds_toArray, List.set_cons_zero, List.set_cons_succ]
  refine wpAnyH_take (i := 2) (oi := ⟨some 55, Op.move (Operand.tmp 7), 29, _, _, none⟩) (v := ?vq3) rfl (by kernel_rfl) (by kernel_rfl) (by kernel_rfl) (fun _ _ _ h => h) (Or.inl ⟨by rfl, fun W hW => ?_⟩) (by assumption) ?_
  rotate_left
  · go_simp
    with_reducible rfl
  try simp only [Act.put, List.setIfInBounds_toArray, List.set_cons_zero, List.set_cons_succ]
  refine wpAnyH_take (i := 3) (oi := ⟨some 56, Op.move (Operand.tmp 8), 3, _, _, none⟩) (v := ?vq4) rfl (by kernel_rfl) (by kernel_rfl) (by kernel_rfl) (fun _ _ _ h => h) (Or.inl ⟨by rfl, fun W hW => ?_⟩) (by assumption) ?_
  rotate_left
  · go_simp
    with_reducible rfl
  try simp only [Act.put, List.setIfInBounds_toArray, List.set_cons_zero, List.set_cons_succ]
  refine wpAnyH_take (i := 4) (oi := ⟨some 57, Op.indexAddr 29 (Operand.tmp 55) (Operand.tmp 56), 0, _, _, none⟩) (v := ?vq5) rfl (by kernel_rfl) (by kernel_rfl) (by kernel_rfl) (fun _ _ _ h => h) (Or.inl ⟨by rfl, fun W hW => ?_⟩) (by assumption) ?_
  rotate_left
  · go_simp
    with_reducible rfl
  try simp only [Act.put, List.setIfInBounds_toArray, List.set_cons_zero, List.set_cons_succ]
  refine wpAnyH_take (i := 5) (oi := ⟨some 58, Op.load 9 (Operand.tmp 57), 9, _, _, none⟩) (v := sv ky) rfl (by kernel_rfl) (by kernel_rfl) (by kernel_rfl) (fun _ _ _ h => h) (Or.inl ⟨by rfl, fun W hW => ?_⟩) (by assumption) ?_
  · go_simp
  try simp only [Act.put, List.setIfInBounds_toArray, List.set_cons_zero, List.set_cons_succ]
  refine wpAnyH_take (i := 7) (oi := ⟨some 60, Op.move (Operand.tmp 1), 24, _, _, none⟩) (v := ?vq6) rfl (by kernel_rfl) (by kernel_rfl) (by kernel_rfl) (fun _ _ _ h => h) (Or.inl ⟨by rfl, fun W hW => ?_⟩) (by assumption) ?_
  rotate_left
  · go_simp
    with_reducible rfl
  try simp only [Act.put, List.setIfInBounds_toArray, List.set_cons_zero, List.set_cons_succ]
  refine wpAnyH_take (i := 8) (oi := ⟨some 61, Op.move (Operand.tmp 2), 3, _, _, none⟩) (v := ?vq7) rfl (by kernel_rfl) (by kernel_rfl) (by kernel_rfl) (fun _ _ _ h => h) (Or.inl ⟨by rfl, fun W hW => ?_⟩) (by assumption) ?_
  rotate_left
  · go_simp
    with_reducible rfl
  try simp only [Act.put, List.setIfInBounds_toArray, List.set_cons_zero, List.set_cons_succ]
  refine wpAnyH_take (i := 9) (oi := ⟨some 62, Op.move (Operand.tmp 7), 29, _, _, none⟩) (v := ?vq8) rfl (by kernel_rfl) (by kernel_rfl) (by kernel_rfl) (fun _ _ _ h => h) (Or.inl ⟨by rfl, fun W hW => ?_⟩) (by assumption) ?_
  rotate_left
  · go_simp
    with_reducible rfl
  try simp only [Act.put, List.setIfInBounds_toArray, List.set_cons_zero, List.set_cons_succ]
  refine wpAnyH_take (i := 10) (oi := ⟨some 63, Op.move (Operand.tmp 8), 3, _, _, none⟩) (v := ?vq9) rfl (by kernel_rfl) (by kernel_rfl) (by kernel_rfl) (fun _ _ _ h => h) (Or.inl ⟨by rfl, fun W hW => ?_⟩) (by assumption) ?_
  rotate_left
  · go_simp
    with_reducible rfl
  try simp only [Act.put, List.setIfInBounds_toArray, List.set_cons_zero, List.set_cons_succ]
  refine wpAnyH_take (i := 11) (oi := ⟨some 64, Op.indexAddr 29 (Operand.tmp 62) (Operand.tmp 63), 0, _, _, none⟩) (v := ?vq10) rfl (by kernel_rfl) (by kernel_rfl) (by kernel_rfl) (fun _ _ _ h => h) (Or.inl ⟨by rfl, fun W hW => ?_⟩) (by assumption) ?_
  rotate_left
  · go_simp
    with_reducible rfl
  try simp only [Act.put, List.setIfInBounds_toArray, List.set_cons_zero, List.set_cons_succ]
  refine wpAnyH_take (i := 12) (oi := ⟨some 65, Op.load 9 (Operand.tmp 64), 9, _, _, none⟩) (v := sv ky) rfl (by kernel_rfl) (by kernel_rfl) (by kernel_rfl) (fun _ _ _ h => h) (Or.inl ⟨by rfl, fun W hW => ?_⟩) (by assumption) ?_
  · go_simp
  try simp only [Act.put, List.setIfInBounds_toArray, List.set_cons_zero, List.set_cons_succ]
  refine wpAnyH_ready (rs := [6]) (by kernel_rfl) (by simp) ?_
  refine AllReadyH.cons (o := ⟨some 59, Op.call { callee := Callee.value (Operand.func 31), args := #[Operand.tmp 53, Operand.tmp 54, Operand.tmp 58], argTypes := #[24, 3, 9] }, 9, _, _, none⟩) rfl (fun KK hKK => ?_) AllReadyH.nil
  refine step_callW (by rfl) 31 _ _ rfl #[.pointer (some ⟨c, 0, none⟩), .int .i64 id, sv ky] (by first | (simp [Act.eval]; done) | (simp [Act.eval, Act.put]; done)) (enters_of Tryz.func31 (by kernel_rfl) rfl) (HC.out _ K0) ?_
  rintro e W11 ⟨rfl, k12⟩
  refine ⟨_, rfl, ?_⟩
  have K13 := K0.trans k12 (by simp)
  refine hKK.out _ _ (HS.out _ K13) (fun hHeld => ?_)
  clear hKK KK
  try simp only [Act.put, List.setIfInBounds_toArray, List.set_cons_zero, List.set_cons_succ]
  refine wpAnyH_ready (rs := [13]) (by kernel_rfl) (by simp) ?_
  refine AllReadyH.cons (o := ⟨some 66, Op.call { callee := Callee.value (Operand.func 31), args := #[Operand.tmp 60, Operand.tmp 61, Operand.tmp 65], argTypes := #[24, 3, 9] }, 9, _, _, none⟩) rfl (fun KK hKK => ?_) AllReadyH.nil
  refine step_callW (by rfl) 31 _ _ rfl #[.pointer (some ⟨d, 0, none⟩), .int .i64 id, sv ky] (by first | (simp [Act.eval]; done) | (simp [Act.eval, Act.put]; done)) (enters_of Tryz.func31 (by kernel_rfl) rfl) (HD.out _ K13) ?_
  rintro e W14 ⟨rfl, k15⟩
  refine ⟨_, rfl, ?_⟩
  have K16 := K13.trans k15 (by simp)
  refine hKK.out _ _ (HS.out _ K16) (fun hHeld => ?_)
  clear hKK KK
  try simp only [Act.put, List.setIfInBounds_toArray, List.set_cons_zero, List.set_cons_succ]
  refine wpAnyH_take (i := 14) (oi := ⟨some 67, Op.binOp BinOp.neq 9 (Operand.tmp 59) (Operand.tmp 66) 9, 4, _, _, none⟩) (v := .bool false) rfl (by kernel_rfl) (by kernel_rfl) (by kernel_rfl) (fun _ _ _ h => h) (Or.inl ⟨by rfl, fun W hW => ?_⟩) (by assumption) ?_
  · go_simp
  try simp only [Act.put, List.setIfInBounds_toArray, List.set_cons_zero, List.set_cons_succ]
  refine wpAnyH_done (by kernel_rfl) ?_ _
  refine NoPanic.normal ?_
  exact hK _ _ _ _ _ _ _ _ _ _ _ _ _ _ _ K16
/-- What alike wants of one of the two cells. -/
structure Asks (w : World) (c : Nat) (i : Int) (n : List Str) (m : List (Str × Str)) (r : List Rd) (b : Bool) (s : Str → Str) : Prop where
  nm : ∀ W, Keeps [] w W → Calls Tryz.prog 30 #[.pointer (some ⟨c, 0, none⟩), .int .i64 i] W fun e w' => (∃ A cc, e = .returned (.slice A n.length cc) ∧ w'.ownsRow 0 9 1 (.slice A n.length cc) n.length (vs n)) ∧ Keeps [] W w'
  wr : ∀ W, Keeps [] w W → Calls Tryz.prog 25 #[.pointer (some ⟨c, 0, none⟩), .int .i64 i] W fun e w' => (∃ A cc, e = .returned (.slice A m.length cc) ∧ ∀ W, Keeps [] w' W → AtP W A m) ∧ Keeps [] W w'
  rd : ∀ W, Keeps [] w W → Calls Tryz.prog 28 #[.pointer (some ⟨c, 0, none⟩), .int .i64 i] W fun e w' => (∃ A cc, e = .returned (.slice A r.length cc) ∧ RdAt w' (.slice A r.length cc) r) ∧ Keeps [] W w'
  vl : ∀ W, Keeps [] w W → Calls Tryz.prog 14 #[.pointer (some ⟨c, 0, none⟩), .int .i64 i] W fun e w' => e = .returned (.bool b) ∧ Keeps [] W w'
  lg : ∀ W, Keeps [] w W → ∀ k ∈ n, Calls Tryz.prog 31 #[.pointer (some ⟨c, 0, none⟩), .int .i64 i, sv k] W fun e w' => e = .returned (sv (s k)) ∧ Keeps [] W w'
theorem Asks.keep {w w' : World} {c : Nat} {i : Int} {n : List Str} {m : List (Str × Str)} {r : List Rd} {b : Bool} {s : Str → Str} (h : Asks w c i n m r b s) (hk : Keeps [] w w') : Asks w' c i n m r b s :=
  ⟨fun W k => h.nm W (hk.trans k (by simp)), fun W k => h.wr W (hk.trans k (by simp)), fun W k => h.rd W (hk.trans k (by simp)), fun W k => h.vl W (hk.trans k (by simp)), fun W k => h.lg W (hk.trans k (by simp))⟩
theorem Cs.asks {w : World} {c : Nat} {F G : List Nat} {C : St} {P : List Str} (h : Cs w c F G C) (hW : WF P C) (hP : PoolOk P) {i : Int} (hi : I64 i) :
    Asks w c i (namesP C i) (wrP C i) (rdsP C i) (validP C i) (logsP C i) := by
  refine ⟨fun W k => ?_, fun W k => ?_, fun W k => ?_, fun W k => ?_, fun W k q hq => ?_⟩
  · refine (names_any (h.keep0 k) hW hP hi).mono ?_
    rintro e w' ⟨⟨v, rfl, h1, -⟩, h2⟩
    obtain ⟨A, cc, rfl, -, -, -⟩ := own_shape h1
    exact ⟨⟨A, cc, rfl, h1⟩, h2⟩
  · refine (writes_any (h.keep0 k) hW hP hi).mono ?_
    rintro e w' ⟨v, rfl, h1, h2, -⟩
    obtain ⟨A, cc, rfl, -, -, -⟩ := own_shape h1
    exact ⟨⟨A, cc, rfl, fun W k => AtP.of_own (own_keep h1 k (by simp)) (wrP_len hW hP i)⟩, h2⟩
  · exact reads_any (h.keep0 k) hW hP hi
  · exact valid_any (h.keep0 k) hW hP hi
  · refine (logs_any (h.keep0 k) hi q ?_).mono ?_
    · unfold namesP at hq
      cases hf : find C i with
      | none => rw [hf] at hq; cases hq
      | some x =>
        rw [hf] at hq
        obtain ⟨e, he, rfl⟩ := List.mem_map.1 hq
        exact hP.k _ ((hW.ok x (find_mem hf).1).lp e he)
    · rintro e w' ⟨rfl, rfl⟩
      exact ⟨rfl, Keeps.refl _ _⟩
set_option maxRecDepth 100000 in
set_option maxHeartbeats 6400000 in
theorem alike_asks (w : World) (c d : Nat) (i : Int) (n : List Str) (m : List (Str × Str)) (r : List Rd) (b : Bool) (s : Str → Str) (hc : Asks w c i n m r b s) (hd : Asks w d i n m r b s) (hn : n.length ≤ 1000000) (hr : ∀ x ∈ r, (lstR x).length ≤ 1000000) (hm : r.length ≤ 2000000) :
    Calls Tryz.prog 35 #[.pointer (some ⟨c, 0, none⟩), .pointer (some ⟨d, 0, none⟩), .int .i64 i] w fun e w' => e = .returned (.bool true) ∧ Keeps [] w w' := by
  have HC := Lib.hid hc
  have HD := Lib.hid hd
  have HR := Lib.hid hr
  clear hc hd hr
  go_enter Tryz.func35, Tryz.ntmps35
  go_wp2_with fail
  refine (HC.out.nm w (Keeps.refl _ _)).mono ?_
  rintro e w1 ⟨⟨A, cc, rfl, h1⟩, k1⟩
  have HN := Lib.hid h1
  have K1 := Lib.hid k1
  clear h1 k1
  go_wp2_with fail
  refine (HC.out.wr _ K1.out).mono ?_
  rintro e w2 ⟨⟨B, bc, rfl, h1⟩, k1⟩
  have HB := Lib.hid h1
  have K2 := Lib.hid (K1.out.trans k1 (by simp))
  have HN2 := Lib.hid (own_keep HN.out k1 (by simp))
  clear h1 k1 K1 HN
  go_wp2_with fail
  refine (HD.out.wr _ K2.out).mono ?_
  rintro e w3 ⟨⟨B2, bc2, rfl, h1⟩, k1⟩
  have HB2 := Lib.hid (h1 w3 (Keeps.refl _ _))
  have HB1 := Lib.hid (HB.out w3 k1)
  have K3 := Lib.hid (K2.out.trans k1 (by simp))
  have HN3 := Lib.hid (own_keep HN2.out k1 (by simp))
  clear h1 k1 K2 HN2 HB
  go_wp2_with fail
  refine (pairs_any w3 B B2 m m bc bc2 HB1.out HB2.out).mono ?_
  rw [decide_eq_true (rfl : m = m)]
  rintro e w4 ⟨rfl, k1⟩
  have K4 := Lib.hid (K3.out.trans k1 (by simp))
  have HN4 := Lib.hid (own_keep HN3.out k1 (by simp))
  clear k1 K3 HN3 HB1 HB2
  go_wp2_with fail
  refine (HC.out.rd _ K4.out).mono ?_
  rintro e w5 ⟨⟨E, ec, rfl, h1⟩, k1⟩
  have HE := Lib.hid h1
  have K5 := Lib.hid (K4.out.trans k1 (by simp))
  have HN5 := Lib.hid (own_keep HN4.out k1 (by simp))
  clear h1 k1 K4 HN4
  go_wp2_with fail
  refine (HD.out.rd _ K5.out).mono ?_
  rintro e w6 ⟨⟨E2, ec2, rfl, h1⟩, k1⟩
  have HE2 := Lib.hid h1
  have HE1 := Lib.hid (HE.out.keep0 k1)
  have K6 := Lib.hid (K5.out.trans k1 (by simp))
  have HN6 := Lib.hid (own_keep HN5.out k1 (by simp))
  clear h1 k1 K5 HN5 HE
  go_wp2_with fail
  refine (sameReads_eq w6 E E2 r ec ec2 HE1.out HE2.out HR.out hm).mono ?_
  rintro e w7 ⟨rfl, k1⟩
  have K7 := Lib.hid (K6.out.trans k1 (by simp))
  have HN7 := Lib.hid (own_keep HN6.out k1 (by simp))
  clear k1 K6 HN6 HE1 HE2
  go_wp2_with fail
  refine (HD.out.nm _ K7.out).mono ?_
  rintro e w8 ⟨⟨A2, cc2, rfl, h1⟩, k1⟩
  have HM8 := Lib.hid h1
  have K8 := Lib.hid (K7.out.trans k1 (by simp))
  have HN8 := Lib.hid (own_keep HN7.out k1 (by simp))
  clear h1 k1 K7 HN7
  go_wp2_with fail
  refine (same_eq HN8.out HM8.out hn).mono ?_
  rintro e w9 ⟨rfl, k1⟩
  have K9 := Lib.hid (K8.out.trans k1 (by simp))
  have HN9 := Lib.hid (own_keep HN8.out k1 (by simp))
  clear k1 K8 HN8 HM8
  go_wp2_with fail
  refine (HC.out.vl _ K9.out).mono ?_
  rintro e w10 ⟨rfl, k1⟩
  have K10 := Lib.hid (K9.out.trans k1 (by simp))
  have HN10 := Lib.hid (own_keep HN9.out k1 (by simp))
  clear k1 K9 HN9
  go_wp2_with fail
  refine (HD.out.vl _ K10.out).mono ?_
  rintro e w11 ⟨rfl, k1⟩
  have K11 := Lib.hid (K10.out.trans k1 (by simp))
  have HN11 := Lib.hid (own_keep HN10.out k1 (by simp))
  clear k1 K10 HN10
  have hbb : (b != b) = false := by cases b <;> rfl
  go_wp2_with fail
  go_loopw [8] (fun iv wr => ∃ k : Nat, k ≤ n.length ∧ iv = .int .i64 k ∧ Keeps [] w wr ∧ wr.ownsRow 0 9 1 (.slice A n.length cc) n.length (vs n)) (fun iv _ => n.length - (intOf iv).toNat)
  case atStart => exact ⟨0, by omega, rfl, K11.out, HN11.out⟩
  case round =>
    obtain ⟨k, hk, rfl, hkr, hnr⟩ := hrel
    clear K11 HN11
    have KR := Lib.hid hkr
    have HN := Lib.hid hnr
    clear hkr hnr
    by_cases hlt : k < n.length
    · obtain ⟨A', c', hv, -, -, hA⟩ := own_shape HN.out
      obtain ⟨g1, hg1⟩ := hA (by omega)
      obtain ⟨rfl, -, rfl⟩ : A = A' ∧ n.length = n.length ∧ cc = c' := by injection hv with h1 h2 h3; exact ⟨h1, rfl, h3⟩
      subst hg1
      have i0 : (0 : Int) ≤ (k : Int) := by omega
      have i1 : (k : Int) < (n.length : Int) := by omega
      have HS : Hid (∀ W, Keeps [] wr W → W.cell? ⟨g1, k, none⟩ = some (sv n[k])) := Lib.hid (fun W hk => by
        have x1 := own_keep HN.out hk (by simp)
        have := own_cell x1 (j := k) (u := sv n[k]) (by simp [vs, hlt])
        exact this)
      have HCL : Hid (∀ W, Keeps [] wr W → Calls Tryz.prog 31 #[.pointer (some ⟨c, 0, none⟩), .int .i64 i, sv n[k]] W fun e w' => e = .returned (sv (s n[k])) ∧ Keeps [] W w') := Lib.hid (fun W hk => HC.out.lg W (KR.out.trans hk (by simp)) _ (List.getElem_mem hlt))
      have HDL : Hid (∀ W, Keeps [] wr W → Calls Tryz.prog 31 #[.pointer (some ⟨d, 0, none⟩), .int .i64 i, sv n[k]] W fun e w' => e = .returned (sv (s n[k])) ∧ Keeps [] W w') := Lib.hid (fun W hk => HD.out.lg W (KR.out.trans hk (by simp)) _ (List.getElem_mem hlt))
      clear hv hA
      go_upto_region 7 with fail
      refine alikeR7_any wr c d g1 n.length cc k i n[k] (s n[k]) _ HS.out HCL.out HDL.out i0 i1 _ _ _ _ _ _ _ _ _ _ _ _ _ _ _ _ _ _ _ _ _ _ _ _ _ _ _ _ _ _ _ _ _ _ _ _ _ _ _ _ _ _ _ _ _ _ _ _ _ _ _ _ _ _ _ _ _ _ _ _ _ _ _ ?_
      intro v53 v54 v55 v56 v57 v58 v59 v60 v61 v62 v63 v64 v65 v66 W hk
      have KN := Lib.hid (KR.out.trans hk (by simp))
      have HNN := Lib.hid (own_keep HN.out hk (by simp))
      clear hk HS HCL HDL
      go_wp2_with fail
      exact ⟨⟨k + 1, by omega, rfl, KN.out, HNN.out⟩, by simp only [intOf]; omega⟩
    · obtain rfl : k = n.length := by omega
      have i1 : ¬ ((n.length : Int) < (n.length : Int)) := by omega
      go_wp2_with fail
      go_ret
      exact ⟨rfl, KR.out⟩
end Go.Proofs.YtbllmpcpfmlemaaGreat
