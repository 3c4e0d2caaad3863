/- Texts of the elder seat, turned to this one: W28 W29 W30. -/
import Derived.Test.YtcopjjokhjealaaGreatM6
namespace Go.Proofs.YtcopjjokhjealaaGreat
open Go.RowKit

def isStray (l : Int) (it : List Int) (x : Rn) : Bool := decide (x.l = l) && !decide (x.i ∈ it)
/-- The line that the closure holds. -/
def StB (w : World) (b : Nat) (l : Int) (it : List Int) : Prop := ∃ Ai ci, w.cell? ⟨b, 0, none⟩ = some (.int .i64 l) ∧ w.cell? ⟨b, 3, none⟩ = some (.slice Ai it.length ci) ∧ AtZ w Ai it
theorem StB.keep {w w' : World} {b : Nat} {l : Int} {it : List Int} (h : StB w b l it) (k : Keeps [] w w') : StB w' b l it := by
  obtain ⟨Ai, ci, h1, h2, h3⟩ := h
  have hb := lt_of_cell h1
  exact ⟨Ai, ci, (k.cell (p := ⟨b, 0, none⟩) hb (by simp)).trans h1, (k.cell (p := ⟨b, 3, none⟩) hb (by simp)).trans h2, h3.keep k⟩
set_option maxRecDepth 100000 in
set_option maxHeartbeats 3200000 in
theorem strc_any (w : World) (x : Rn) (b1 : Nat) (l : Int) (it : List Int) (h : StB w b1 l it) :
    Calls Tryz.prog 74 #[.agg #[.int .i64 x.l, .int .i64 x.i, .int .i64 x.t, .bool x.d], .pointer (some ⟨b1, 0, none⟩)] w fun e w' => e = .returned (.bool (isStray l it x)) ∧ Keeps [] w w' := by
  obtain ⟨xl, xi, xt, xd⟩ := x
  dsimp only
  obtain ⟨Ai, ci, h1, h2, h3⟩ := h
  have hb := lt_of_cell h1
  have HZ := Lib.hid (h3.keep ((Keeps.refl [] w).alloc (.cells #[.int .i64 xl, .int .i64 xi, .int .i64 xt, .bool xd] 69)))
  by_cases e : xl = l
  · subst e
    have eV : Hid (isStray xl it ⟨xl, xi, xt, xd⟩ = !decide (xi ∈ it)) := Lib.hid (by unfold isStray; rw [decide_eq_true rfl]; rfl)
    obtain ⟨V, hV⟩ : ∃ V, decide (xi ∈ it) = V := ⟨_, rfl⟩
    have HC := Lib.hid (contains_any _ Ai it ci xi HZ.out)
    rw [hV] at HC eV
    rw [eV.out]
    clear h3 hV eV
    go_enter Tryz.func74, Tryz.ntmps74
    go_wp2_with fail
    refine HC.out.mono ?_
    rintro e w1 ⟨rfl, rfl⟩
    clear HC
    cases V with
    | true =>
      go_wp2_with fail
      go_ret
      exact ⟨rfl, (Keeps.refl [] w).alloc _⟩
    | false =>
      go_wp2_with fail
      go_ret
      exact ⟨rfl, (Keeps.refl [] w).alloc _⟩
  · have eV : Hid (isStray l it ⟨xl, xi, xt, xd⟩ = false) := Lib.hid (by unfold isStray; rw [decide_eq_false e]; rfl)
    rw [eV.out]
    clear h3 eV
    go_enter Tryz.func74, Tryz.ntmps74
    go_wp2_with fail
    go_ret
    exact ⟨rfl, (Keeps.refl [] w).alloc _⟩
set_option maxRecDepth 100000 in
set_option maxHeartbeats 3200000 in
theorem ix_stray (w : World) (A : Option Addr) (L : List Rn) (c : Nat) (b1 : Nat) (l : Int) (it : List Int) (ha : AtR w A L) (h1 : StB w b1 l it) :
    Calls Tryz.prog 62 #[.slice A L.length c, .func (.func 74) #[] #[.pointer (some ⟨b1, 0, none⟩)]] w fun e w' => e = .returned (.int .i64 (ixF (fun x => isStray l it x) L)) ∧ Keeps [] w w' := by
  have hm := ha.mx
  have HH := Lib.hid ha
  obtain ⟨V, hV⟩ : ∃ V, ixF (fun x => isStray l it x) L = V := ⟨_, rfl⟩
  rw [hV]
  have HV := Lib.hid hV
  have H1 := Lib.hid (fun W (k : Keeps [] w W) => h1.keep k)
  clear ha hV h1
  go_enter Tryz.func62, Tryz.ntmps62
  go_wp2_with fail
  go_loopw [8] (fun iv wr => ∃ k : Nat, k ≤ L.length ∧ iv = .int .i64 k ∧ (∀ j (hj : j < L.length), j < k → (fun x : Rn => isStray l it x) L[j] = false) ∧ Keeps [] w wr) (fun iv _ => L.length - (intOf iv).toNat)
  case atStart => exact ⟨0, by omega, rfl, fun j hj h => absurd h (by omega), Keeps.refl _ _⟩
  case round =>
    obtain ⟨k, hk, rfl, hno, kp⟩ := hrel
    have HNO := Lib.hid hno
    have KP := Lib.hid kp
    have HA := Lib.hid (HH.out.keep kp)
    clear hno kp
    by_cases hlt : k < L.length
    · obtain ⟨bl, off, hAA, hbl, hc⟩ := HA.out.at_ (by omega)
      subst hAA
      obtain ⟨c0, c1, c2, c3⟩ := hc k hlt
      have i0 : (0 : Int) ≤ (k : Int) := by omega
      have i1 : (k : Int) < (L.length : Int) := by omega
      have hcc := strc_any wr L[k] b1 l it (H1.out wr KP.out)
      obtain ⟨b, hb⟩ : ∃ b, (fun x : Rn => isStray l it x) L[k] = b := ⟨_, rfl⟩
      have HB := Lib.hid hb
      dsimp only at hb
      rw [hb] at hcc
      clear hb hc
      generalize hx : L[k] = x at c0 c1 c2 c3 hcc
      have HC := Lib.hid hcc
      clear hcc hx
      go_wp2_with fail
      refine HC.out.mono ?_
      rintro e w2 ⟨rfl, k2⟩
      have K2 := Lib.hid (KP.out.trans k2 (by simp))
      clear k2 HC c0 c1 c2 c3
      cases b with
      | true =>
        have eV : V = k := by rw [← HV.out]; exact ixF_at hlt HB.out HNO.out
        have HE := Lib.hid eV
        clear eV
        go_wp2_with fail
        go_ret
        rw [HE.out]
        exact ⟨rfl, K2.out⟩
      | false =>
        go_wp2_with fail
        go_roundw
        case rel =>
          refine ⟨k + 1, by omega, by go_num, fun j hj hjk => ?_, K2.out⟩
          by_cases e : j = k
          · subst e; exact HB.out
          · exact HNO.out j hj (by omega)
        case measure => simp [intOf]; omega
    · obtain rfl : k = L.length := by omega
      have eV : V = -1 := by rw [← HV.out]; exact ixF_none HNO.out
      have HE := Lib.hid eV
      clear eV
      go_wp2_with fail
      go_ret
      rw [HE.out]
      exact ⟨rfl, KP.out⟩
noncomputable def str6C : Code := ((Tryz.f52.body.bind (theRegion 6)).getD .skip)
set_option maxRecDepth 1000000 in
set_option maxHeartbeats 1600000 in
set_option linter.unusedSimpArgs false in
theorem str6_any (w : World) (p b g n c k : Nat) (l xi : Int) (RR : World → Prop) (K : Exit → Act → World → Prop)
    (hS : ∀ W, Keeps [] w W → W.cell? ⟨p, 1, none⟩ = some (.slice (some ⟨g, 0, none⟩) n c) ∧ W.cell? ⟨b, 0, none⟩ = some (.int .i64 l) ∧ W.cell? ⟨g, k * 4 + 1, none⟩ = some (.int .i64 xi)) (i0 : (0 : Int) ≤ (k : Int)) (i1 : (k : Int) < (n : Int))
    (hC : ∀ W, Keeps [] w W → Calls Tryz.prog 49 #[.pointer (some ⟨p, 0, none⟩), .int .i64 l, .int .i64 xi, .agg #[.int .i64 0, .int .i64 0, .int .i64 0, .int .i64 0, .int .i64 0, .int .i64 0, .int .i64 1]] W fun e w' => e = .returned (.tuple #[]) ∧ RR w')
    (u1 u2 u4 u5 u6 u8 u9 u10 u11 u12 u13 u14 u15 u16 u17 u18 u19 u20 u21 u22 u23 u24 u25 u26 u27 u28 u29 u30 u31 u32 u33 u34 u35 u36 u37 u38 u39 u40 u41 : Value)
    (hK : ∀ (v23 v24 v25 v26 v27 v28 v29 v30 v31 v32 v33 v34 v35 : Value) (W : World), RR W → K .normal ⟨#[.pointer (some ⟨p, 0, none⟩), u1, u2, .pointer (some ⟨b, 0, none⟩), u4, u5, u6, .int .i64 (k : Int), u8, u9, u10, u11, u12, u13, u14, u15, u16, u17, u18, u19, u20, u21, u22, v23, v24, v25, v26, v27, v28, v29, v30, v31, v32, v33, v34, v35, u36, u37, u38, u39, u40, u41], []⟩ W) :
    Code.wp Tryz.prog str6C K ⟨#[.pointer (some ⟨p, 0, none⟩), u1, u2, .pointer (some ⟨b, 0, none⟩), u4, u5, u6, .int .i64 (k : Int), u8, u9, u10, u11, u12, u13, u14, u15, u16, u17, u18, u19, u20, u21, u22, u23, u24, u25, u26, u27, u28, u29, u30, u31, u32, u33, u34, u35, u36, u37, u38, u39, u40, u41], []⟩ w := by
  have HS := Lib.hid hS
  have HC := Lib.hid hC
  clear hS hC
  conv => arg 2; whnf
  try dsimp only at hK ⊢
  refine wp_region_noPanic ?_
  refine wp_region_last (S := fun W => W.cell? ⟨p, 1, none⟩ = some (.slice (some ⟨g, 0, none⟩) n c) ∧ W.cell? ⟨b, 0, none⟩ = some (.int .i64 l) ∧ W.cell? ⟨g, k * 4 + 1, none⟩ = some (.int .i64 xi)) 12 (by kernel_rfl) (HS.out _ ((Keeps.refl [] w).drew)) (fun hHeld => ?_)
  obtain ⟨w0, hw0⟩ : ∃ w0, w.drew = w0 := ⟨_, rfl⟩
  try rw [hw0] at hHeld
  rw [hw0]
  have K0 : Keeps [] w w0 := by rw [← hw0]; exact (Keeps.refl [] w).drew
  clear hw0
  refine wpG_take (nx := [12, 2, 12, 4, 5, 6, 8, 8, 9, 10, 12, 12]) (i := 0) (oi := ⟨some 23, Op.move (Operand.tmp 0), 26, _, _, none⟩) (v := ?vq1) (by kernel_rfl) rfl (by decide) (by kernel_rfl) (by kernel_rfl) (by kernel_rfl) (fun _ _ _ h => h) (Or.inl ⟨by rfl, fun W hW => ?_⟩) (by assumption) ?_
  rotate_left
  · go_simp
    with_reducible rfl
  try simp only [Act.put, List.setIfInBounds_toArray, List.set_cons_zero, List.set_cons_succ]
  refine wpG_take (nx := [12, 2, 12, 4, 5, 6, 8, 8, 9, 10, 12, 12]) (i := 1) (oi := ⟨some 24, Op.fieldAddr 56 (Operand.tmp 3) 0, 0, _, _, none⟩) (v := ?vq2) (by kernel_rfl) rfl (by decide) (by kernel_rfl) (by kernel_rfl) (by kernel_rfl) (fun _ _ _ h => h) (Or.inl ⟨by rfl, fun W hW => ?_⟩) (by assumption) ?_
  rotate_left
  · go_simp
    with_reducible rfl
  try simp only [Act.put, List.setIfInBounds_toArray, List.set_cons_zero, List.set_cons_succ]
  refine wpG_take (nx := [12, 2, 12, 4, 5, 6, 8, 8, 9, 10, 12, 12]) (i := 2) (oi := ⟨some 25, Op.load 3 (Operand.tmp 24), 3, _, _, none⟩) (v := .int .i64 l) (by kernel_rfl) rfl (by decide) (by kernel_rfl) (by kernel_rfl) (by kernel_rfl) (fun _ _ _ h => h) (Or.inl ⟨by rfl, fun W hW => ?_⟩) (by assumption) ?_
  · (have a0 := hW.2.1; clear hW; go_simp)
  try simp only [Act.put, List.setIfInBounds_toArray, List.set_cons_zero, List.set_cons_succ]
  refine wpG_take (nx := [12, 2, 12, 4, 5, 6, 8, 8, 9, 10, 12, 12]) (i := 3) (oi := ⟨some 26, Op.move (Operand.tmp 0), 26, _, _, none⟩) (v := ?vq3) (by kernel_rfl) rfl (by decide) (by kernel_rfl) (by kernel_rfl) (by kernel_rfl) (fun _ _ _ h => h) (Or.inl ⟨by rfl, fun W hW => ?_⟩) (by assumption) ?_
  rotate_left
  · go_simp
    with_reducible rfl
  try simp only [Act.put, List.setIfInBounds_toArray, List.set_cons_zero, List.set_cons_succ]
  refine wpG_take (nx := [12, 2, 12, 4, 5, 6, 8, 8, 9, 10, 12, 12]) (i := 4) (oi := ⟨some 27, Op.nilCheck (Operand.tmp 26), 0, _, _, none⟩) (v := ?vq4) (by kernel_rfl) rfl (by decide) (by kernel_rfl) (by kernel_rfl) (by kernel_rfl) (fun _ _ _ h => h) (Or.inl ⟨by rfl, fun W hW => ?_⟩) (by assumption) ?_
  rotate_left
  · go_simp
    with_reducible rfl
  try simp only [Act.put, List.setIfInBounds_toArray, List.set_cons_zero, List.set_cons_succ]
  refine wpG_take (nx := [12, 2, 12, 4, 5, 6, 8, 8, 9, 10, 12, 12]) (i := 5) (oi := ⟨some 28, Op.fieldAddr 61 (Operand.tmp 27) 1, 0, _, _, none⟩) (v := ?vq5) (by kernel_rfl) rfl (by decide) (by kernel_rfl) (by kernel_rfl) (by kernel_rfl) (fun _ _ _ h => h) (Or.inl ⟨by rfl, fun W hW => ?_⟩) (by assumption) ?_
  rotate_left
  · go_simp
    with_reducible rfl
  try simp only [Act.put, List.setIfInBounds_toArray, List.set_cons_zero, List.set_cons_succ]
  refine wpG_take (nx := [12, 2, 12, 4, 5, 6, 8, 8, 9, 10, 12, 12]) (i := 6) (oi := ⟨some 29, Op.load 58 (Operand.tmp 28), 58, _, _, none⟩) (v := .slice (some ⟨g, 0, none⟩) n c) (by kernel_rfl) rfl (by decide) (by kernel_rfl) (by kernel_rfl) (by kernel_rfl) (fun _ _ _ h => h) (Or.inl ⟨by rfl, fun W hW => ?_⟩) (by assumption) ?_
  · (have a0 := hW.1; clear hW; go_simp)
  try simp only [Act.put, List.setIfInBounds_toArray, List.set_cons_zero, List.set_cons_succ]
  refine wpG_take (nx := [12, 2, 12, 4, 5, 6, 8, 8, 9, 10, 12, 12]) (i := 7) (oi := ⟨some 30, Op.move (Operand.tmp 7), 3, _, _, none⟩) (v := ?vq6) (by kernel_rfl) rfl (by decide) (by kernel_rfl) (by kernel_rfl) (by kernel_rfl) (fun _ _ _ h => h) (Or.inl ⟨by rfl, fun W hW => ?_⟩) (by assumption) ?_
  rotate_left
  · go_simp
    with_reducible rfl
  try simp only [Act.put, List.setIfInBounds_toArray, List.set_cons_zero, List.set_cons_succ]
  refine wpG_take (nx := [12, 2, 12, 4, 5, 6, 8, 8, 9, 10, 12, 12]) (i := 8) (oi := ⟨some 31, Op.indexAddr 58 (Operand.tmp 29) (Operand.tmp 30), 0, _, _, none⟩) (v := .pointer (some ⟨g, k * 4, none⟩)) (by kernel_rfl) rfl (by decide) (by kernel_rfl) (by kernel_rfl) (by kernel_rfl) (fun _ _ _ h => h) (Or.inl ⟨by rfl, fun W hW => ?_⟩) (by assumption) ?_
  · (go_simp; done)
  try simp only [Act.put, List.setIfInBounds_toArray, List.set_cons_zero, List.set_cons_succ]
  refine wpG_take (nx := [12, 2, 12, 4, 5, 6, 8, 8, 9, 10, 12, 12]) (i := 9) (oi := ⟨some 32, Op.fieldAddr 69 (Operand.tmp 31) 1, 0, _, _, none⟩) (v := ?vq7) (by kernel_rfl) rfl (by decide) (by kernel_rfl) (by kernel_rfl) (by kernel_rfl) (fun _ _ _ h => h) (Or.inl ⟨by rfl, fun W hW => ?_⟩) (by assumption) ?_
  rotate_left
  · go_simp
    with_reducible rfl
  try simp only [Act.put, List.setIfInBounds_toArray, List.set_cons_zero, List.set_cons_succ]
  refine wpG_take (nx := [12, 2, 12, 4, 5, 6, 8, 8, 9, 10, 12, 12]) (i := 10) (oi := ⟨some 33, Op.load 3 (Operand.tmp 32), 3, _, _, none⟩) (v := .int .i64 xi) (by kernel_rfl) rfl (by decide) (by kernel_rfl) (by kernel_rfl) (by kernel_rfl) (fun _ _ _ h => h) (Or.inl ⟨by rfl, fun W hW => ?_⟩) (by assumption) ?_
  · (have a0 := hW.2.2; clear hW; go_simp)
  try simp only [Act.put, List.setIfInBounds_toArray, List.set_cons_zero, List.set_cons_succ]
  refine wpG_take (nx := [12, 2, 12, 4, 5, 6, 8, 8, 9, 10, 12, 12]) (i := 11) (oi := ⟨some 34, Op.build 84 #[(6, Operand.const (Value.int IntKind.i64 1))], 84, _, _, none⟩) (v := .agg #[.int .i64 0, .int .i64 0, .int .i64 0, .int .i64 0, .int .i64 0, .int .i64 0, .int .i64 1]) (by kernel_rfl) rfl (by decide) (by kernel_rfl) (by kernel_rfl) (by kernel_rfl) (fun _ _ _ h => h) (Or.inl ⟨by rfl, fun W hW => ?_⟩) (by assumption) ?_
  · go_simp
  try simp only [Act.put, List.setIfInBounds_toArray, List.set_cons_zero, List.set_cons_succ]
  refine wpG_ready (rs := [12]) (by kernel_rfl) (by simp) ?_
  refine AllG.last (o := ⟨some 35, Op.call { callee := Callee.value (Operand.func 49), args := #[Operand.tmp 23, Operand.tmp 25, Operand.tmp 33, Operand.tmp 34], argTypes := #[26, 3, 3, 84] }, 0, _, _, none⟩) rfl (fun KK hKK => ?_)
  refine step_callW (by rfl) 49 _ _ rfl #[.pointer (some ⟨p, 0, none⟩), .int .i64 l, .int .i64 xi, .agg #[.int .i64 0, .int .i64 0, .int .i64 0, .int .i64 0, .int .i64 0, .int .i64 0, .int .i64 1]] (by first | (simp [Act.eval]; done) | (simp [Act.eval, Act.put]; done)) (enters_of Tryz.func49 (by kernel_rfl) rfl) (HC.out _ K0) ?_
  rintro e W8 ⟨rfl, r9⟩
  refine ⟨_, rfl, ?_⟩
  refine hKK.out _ _ ?_
  clear hKK KK
  try simp only [Act.put, List.setIfInBounds_toArray, List.set_cons_zero, List.set_cons_succ]
  refine wpG_done (by kernel_rfl) ?_ _
  refine NoPanic.normal ?_
  exact hK _ _ _ _ _ _ _ _ _ _ _ _ _ _ r9
end Go.Proofs.YtcopjjokhjealaaGreat
namespace Go.Proofs.YtcopjjokhjealaaGreat
open Go.RowKit

def strC : Ct := ⟨0, 0, 0, 0, 0, 0, 1⟩
theorem strC_ok : OkM 1 strC := ⟨by simp [strC], by simp [strC], by simp [strC], by simp [strC], by simp [strC]⟩
/-- What strays does. -/
inductive St (l : Int) (it : List Int) : Pl → Pl → List Int → Prop where
  | done {s : Pl} (h : ixF (isStray l it) s.li < 0) : St l it s s []
  | step {s s1 s2 : Pl} {k : Nat} {o1 o2 : List Int} (h : ixF (isStray l it) s.li = k) (hk : k < s.li.length) (h1 : Rm (.rem k) (cntS s l s.li[k].i strC) s1 o1) (h2 : St l it s1 s2 o2) : St l it s s2 (o1 ++ o2)
set_option maxRecDepth 100000 in
set_option maxHeartbeats 6400000 in
theorem strays_any (w : World) (F : List Nat) (p : Nat) (s : Pl) (lm cm nl nc : Nat) (A : Option Addr) (c : Nat) (f : Int → Option LnV) (h : PlAt w F p s lm cm nl nc A c f) (hnl : nl ≤ 1000) (hnc : nc + s.li.length ≤ 1000) (hs : ∀ x n, s.ln x = some n → kI.ok x)
    (hkr : ∀ r ∈ s.li, kP.ok (r.l, r.i)) (M : Nat) (hM : M + s.li.length ≤ 1000000) (hc : CapM M s.ct) (l par pid : Int) (it : List Int) (Ai : Option Addr) (ci : Nat) (hit : it.length ≤ 1000) (hi : w.ownsRow 0 3 1 (.slice Ai it.length ci) it.length (zs it)) :
    Calls Tryz.prog 52 #[.pointer (some ⟨p, 0, none⟩), .agg #[.int .i64 l, .int .i64 par, .int .i64 pid, .slice Ai it.length ci]] w fun e w' => ∃ v o s' f' nc', e = .returned v ∧ St l it s s' o ∧ w'.ownsRow 0 3 1 v o.length (zs o) ∧
      PlAt w' F p s' lm cm nl nc' A c f' ∧ nc' + s'.li.length ≤ nc + s.li.length ∧ Keeps F w w' ∧ ∀ g ∈ fp v, w.heap.size ≤ g := by
  have HH := Lib.hid h
  have HBB := Lib.hid h.itB
  have HS := Lib.hid hs
  have HFL := Lib.hid h.lt
  have HKR := Lib.hid hkr
  have HCM := Lib.hid hc
  have HI := Lib.hid info3
  have f1 : w.cell? ⟨p, 1, none⟩ = some (.slice A s.li.length c) := h.b.cell 1
  have hpl := h.b.lt
  have ka : Keeps [] w (w.alloc (.cells #[.int .i64 l, .int .i64 par, .int .i64 pid, .slice Ai it.length ci] 56)) := (Keeps.refl _ _).alloc _
  have BB : Hid (Blk (w.alloc (.cells #[.int .i64 l, .int .i64 par, .int .i64 pid, .slice Ai it.length ci] 56)) w.heap.size 56 #[.int .i64 l, .int .i64 par, .int .i64 pid, .slice Ai it.length ci]) := Lib.hid (Blk.new _ _ _)
  have HP0 := Lib.hid (h.keep0 ka)
  have HIT0 := Lib.hid (own_keep hi ka (by simp))
  have HIN : Hid (∀ g ∈ fp (.slice Ai it.length ci), g ∉ F ∧ g < w.heap.size) := Lib.hid (fun g hg => ⟨fun hF => h.noInt g hF (own_int hi g hg), own_lt hi hg⟩)
  have KA := Lib.hid ka
  have STB : Hid (∀ W, W.ownsRow 0 3 1 (.slice Ai it.length ci) it.length (zs it) → Blk W w.heap.size 56 #[.int .i64 l, .int .i64 par, .int .i64 pid, .slice Ai it.length ci] → StB W w.heap.size l it) := Lib.hid (fun W h1 h2 => ⟨Ai, ci, h2.cell 0, h2.cell 3, AtZ.of_own h1 (by omega)⟩)
  have IX := Lib.hid (ix_stray _ A s.li c w.heap.size l it (AtR.of_own HP0.out.o (by omega)) (STB.out _ HIT0.out BB.out))
  clear h hs ka hkr hc hi
  go_enter Tryz.func52, Tryz.ntmps52
  go_wp2_with fail
  refine IX.out.mono ?_
  rintro e w1 ⟨rfl, k1⟩
  have HP1 := Lib.hid (HP0.out.keep0 k1)
  have K1 : Hid (Keeps F w w1) := Lib.hid ((KA.out.trans k1 (by simp)).mono (by simp))
  have BB1 := Lib.hid (BB.out.keep k1 (by simp))
  have HIT1 := Lib.hid (own_keep HIT0.out k1 (by simp))
  have hz1 : w.heap.size + 1 ≤ w1.heap.size := by have := k1.size; simp at this; exact this
  clear k1 HP0 KA BB IX HIT0
  obtain ⟨m, hm⟩ : ∃ m, s.li.length = m := ⟨_, rfl⟩
  go_wp2_with fail
  go_loopw [5, 7] (fun v iv wr => ∃ (s1 : Pl) (o1 : List Int) (f1 : Int → Option LnV) (nc1 M1 : Nat), iv = .int .i64 (ixF (isStray l it) s1.li) ∧ wr.ownsRow 0 3 1 v o1.length (zs o1) ∧ PlAt wr F p s1 lm cm nl nc1 A c f1 ∧ ItB w.heap.size f1 ∧
    (∀ s2 o2, St l it s1 s2 o2 → St l it s s2 (o1 ++ o2)) ∧ o1.length + s1.li.length ≤ m ∧ (∀ x n, s1.ln x = some n → kI.ok x) ∧ s1.li.Sublist s.li ∧ CapM M1 s1.ct ∧ M1 + s1.li.length ≤ M + m ∧ nc1 + s1.li.length ≤ nc + m ∧ Keeps F w wr ∧ Blk wr w.heap.size 56 #[.int .i64 l, .int .i64 par, .int .i64 pid, .slice Ai it.length ci] ∧
    wr.ownsRow 0 3 1 (.slice Ai it.length ci) it.length (zs it) ∧ (∀ g ∈ fp v, w.heap.size < g)) (fun v _ _ => m - lenV v)
  case atStart => exact ⟨s, [], f, nc, M, rfl, World.ownsRow_nil _ _ _ _, HP1.out, HBB.out, fun s2 o2 h => h, by rw [hm]; simp, HS.out, List.Sublist.refl _, HCM.out, by omega, by omega, K1.out, BB1.out, HIT1.out, by simp⟩
  case round =>
    obtain ⟨s1, o1, f1', nc1, M1, rfl, ho, hp, hfb, hcu, hln, hs1, hsb, hcm, hMM, hNN, kw, hb, hit1, hfv⟩ := hrel
    have HCU := Lib.hid hcu
    have HS1 := Lib.hid hs1
    have HSB := Lib.hid hsb
    have HO := Lib.hid ho
    have HP := Lib.hid hp
    have HFB := Lib.hid hfb
    have KW := Lib.hid kw
    have HB := Lib.hid hb
    have HFV := Lib.hid hfv
    have HC1 := Lib.hid hcm
    have HT1 := Lib.hid hit1
    have hlv := own_fp_pos ho
    have hwz := kw.size
    obtain ⟨A1, c1, rfl, -, -, -⟩ := own_shape ho
    clear hcu hs1 ho hp hfb kw hb hfv HP1 K1 BB1 hsb hcm hit1 HIT1
    rcases ixF_cases (isStray l it) s1.li with hneg | ⟨k, hk⟩
    · obtain ⟨I, hI⟩ : ∃ I, ixF (isStray l it) s1.li = I := ⟨_, rfl⟩
      rw [hI]
      have hneg' : I < 0 := by rw [← hI]; exact hneg
      have HD := Lib.hid (HCU.out _ [] (St.done hneg))
      clear hneg hI HCU
      go_wp2_with fail
      go_ret
      have hdd := HD.out
      rw [List.append_nil] at hdd
      exact ⟨_, o1, _, _, nc1, rfl, hdd, HO.out, HP.out, by omega, KW.out, fun y hy => Nat.le_of_lt (HFV.out y hy)⟩
    · obtain ⟨hkl, -, -⟩ := ixF_spec hk
      have HKI := Lib.hid hk
      have hkm : k < m := by omega
      rw [hk]
      obtain ⟨_, _, hv, -, -, hA⟩ := own_shape HP.out.o
      obtain ⟨g, hg⟩ := hA (by omega)
      obtain ⟨hAe, -, hce⟩ : A = _ ∧ s1.li.length = _ ∧ c = _ := by injection hv with h1 h2 h3; exact ⟨h1, rfl, h3⟩
      replace hAe : A = some ⟨g, 0, none⟩ := hAe.trans hg
      subst hAe
      clear hv hA hg hce
      have hxi : s1.li[k] ∈ s1.li := List.getElem_mem hkl
      have hokx := HKR.out _ (HSB.out.subset hxi)
      have hlx : s1.li[k].l = l := by
        obtain ⟨_, h, -⟩ := ixF_spec hk
        unfold isStray at h
        simp at h
        exact h.1
      rw [hlx] at hokx
      obtain ⟨xi, hxie⟩ : ∃ xi, s1.li[k].i = xi := ⟨_, rfl⟩
      have HSTP : Hid (∀ s5 o5, Rm (.rem k) (cntS s1 l xi strC) s5 o5 → ∀ s2 o2, St l it s5 s2 o2 → St l it s1 s2 (o5 ++ o2)) := Lib.hid (fun s5 o5 hrm s2 o2 h => by
        subst hxie
        exact St.step hk hkl hrm h)
      rw [hxie] at hokx
      have cx : ∀ W, Keeps [] wr W → W.cell? ⟨g, k * 4 + 1, none⟩ = some (.int .i64 xi) := fun W kW => own_cell (own_keep HP.out.o kW (by simp)) (by rw [rw_at rcs_len hkl (by omega), ← hxie]; rfl)
      have HCX := Lib.hid cx
      have HOKX := Lib.hid hokx
      have i0 : (0 : Int) ≤ (k : Int) := by omega
      have i1 : (k : Int) < (s1.li.length : Int) := by omega
      clear hk cx hokx hlx hxi hxie HKI
      go_upto_region 6 with fail
      refine str6_any wr p w.heap.size g s1.li.length c k l xi (fun W => PlAt W F p (cntS s1 l xi strC) lm cm nl (nc1 + 1) (some ⟨g, 0, none⟩) c f1' ∧ Keeps F wr W) _ (fun W kW => ⟨(HP.out.keep0 kW).b.cell 1, (HB.out.keep kW (by simp)).cell 0, HCX.out W kW⟩) i0 i1
        (fun W kW => (count_pl W F p s1 lm cm nl nc1 _ c f1' (HP.out.keep0 kW) l xi strC M1 (by omega) HC1.out strC_ok HOKX.out (by omega)).mono (fun e w' h => ⟨h.1, h.2.1, (kW.mono (by simp)).trans h.2.2 (fun y hy => .inl hy)⟩)) _ _ _ _ _ _ _ _ _ _ _ _ _ _ _ _ _ _ _ _ _ _ _ _ _ _ _ _ _ _ _ _ _ _ _ _ _ _ _ ?_
      intro v23 v24 v25 v26 v27 v28 v29 v30 v31 v32 v33 v34 v35 w4 hr4
      have HP4 := Lib.hid hr4.1
      have K4 := Lib.hid (KW.out.trans hr4.2 (fun y hy => .inl hy))
      have hFw := HFL.out
      have hz4 := hr4.2.size
      have HO4 := Lib.hid (own_keep HO.out hr4.2 (fun y hy hyF => by have := HFV.out y hy; have := hFw y hyF; omega))
      have BB4 := Lib.hid (HB.out.keep hr4.2 (fun hyF => by have := hFw _ hyF; omega))
      have HT4 := Lib.hid (own_keep HT1.out hr4.2 (fun y hy => (HIN.out y hy).1))
      have HC4 : Hid (CapM (M1 + 1) (cntS s1 l xi strC).ct) := Lib.hid (HC1.out.add l xi strC_ok)
      have HKL := Lib.hid hkl
      obtain ⟨sc, hsc⟩ : ∃ sc, cntS s1 l xi strC = sc := ⟨_, rfl⟩
      have HLN : Hid (sc.ln = s1.ln ∧ sc.li = s1.li) := Lib.hid ⟨by rw [← hsc]; rfl, by rw [← hsc]; rfl⟩
      have hlsc : sc.li.length = s1.li.length := by rw [HLN.out.2]
      rw [hsc] at HP4 HC4
      have HST : Hid (∀ s5 o5, Rm (.rem k) sc s5 o5 → ∀ s2 o2, St l it s5 s2 o2 → St l it s s2 ((o1 ++ o5) ++ o2)) := Lib.hid (fun s5 o5 hrm s2 o2 h => by
        rw [List.append_assoc]
        exact HCU.out s2 (o5 ++ o2) (HSTP.out s5 o5 (by rw [hsc]; exact hrm) s2 o2 h))
      clear hr4 hFw hsc HCU HSTP HP HB HO KW HT1 HC1 HCX
      go_wp2_with fail
      refine ((rem_cut 1000 (by omega)).1 w4 F p sc lm cm nl (nc1 + 1) _ c f1' w.heap.size k HP4.out HFB.out K4.out.size (by omega) (by omega) (fun x n hx => HS1.out x n (by rw [← HLN.out.1]; exact hx)) (by omega)).mono ?_
      rintro e w5 ⟨v5, o5, s5, f5, rfl, hrm, oo5, hp5, hb5, k5, ff5⟩
      obtain ⟨A5, c5, rfl, -, -, -⟩ := own_shape oo5
      have hlen5 := hrm.len
      have hlt5 := hrm.lt
      have hFw := HFL.out
      have hz5 := k5.size
      have HO5 := Lib.hid (own_keep HO4.out k5 (fun y hy hyF => by have := HFV.out y hy; have := hFw y hyF; omega))
      have BB5 := Lib.hid (BB4.out.keep k5 (fun hyF => by have := hFw _ hyF; omega))
      have HT5 := Lib.hid (own_keep HT4.out k5 (fun y hy => (HIN.out y hy).1))
      have OO5 := Lib.hid (reads_own oo5)
      have HP5 := Lib.hid hp5
      have HB5 := Lib.hid hb5
      have HCU5 := Lib.hid (HST.out s5 o5 hrm)
      have HS5 : Hid (∀ x n, s5.ln x = some n → kI.ok x) := Lib.hid (fun x n hx => HS1.out x n (by rw [← HLN.out.1]; exact hrm.ln x n hx))
      have HSB5 : Hid (s5.li.Sublist s.li) := Lib.hid ((by have := hrm.sub; rw [HLN.out.2] at this; exact this : s5.li.Sublist s1.li).trans HSB.out)
      have HC5 : Hid (CapM (M1 + 1) s5.ct) := Lib.hid (fun k' c' hc' => HC4.out k' c' (hrm.ct k' c' hc'))
      have KW5 : Hid (Keeps F w w5) := Lib.hid (K4.out.trans k5 (fun y hy => .inl hy))
      have hlo : o1.length + o5.length ≤ 2000 := by omega
      have hl2 : (o1 ++ o5).length + s5.li.length ≤ m := by rw [List.length_append]; omega
      have ho5 : 0 < o5.length := by omega
      have hM5 : M1 + 1 + s5.li.length ≤ M + m := by omega
      have hN5 : nc1 + 1 + s5.li.length ≤ nc + m := by omega
      have hwz5 := KW5.out.size
      clear hrm oo5 hp5 hb5 k5 ff5 HST HS1 HP4 HFB K4 BB4 HO4 HT4 HC4 hlen5 hz5 hFw hlt5 HSB HLN hlsc hz4
      go_wp2_with (at_builtin; refine wpList_app _ rfl (.tmp 36) (.tmp 39) _ rfl 3 (.int .i64 0) 1 8 Tryz.underlying22 HI.out rfl (by omega) (.slice A1 o1.length c1) _ _ rfl HO5.out _ _ _ _ (zs o5) rfl OO5.out (zs_one _) (by unfold maxLen; omega) (by omega) ?_)
      intro v6 w6 o6 k6 f6
      have hFw := HFL.out
      have O6 : Hid (w6.ownsRow 0 3 1 v6 (o1 ++ o5).length (zs (o1 ++ o5))) := Lib.hid (by
        rw [List.length_append, show zs (o1 ++ o5) = zs o1 ++ zs o5 by simp [zs]]
        exact o6)
      have HP6 := Lib.hid (HP5.out.keepB HB5.out k6 (fun y hy hyA => by have := HFV.out y hyA; have := hFw y hy; omega) (fun y hy => .inl (Nat.le_of_lt (HFV.out y hy))))
      have K6 : Hid (Keeps F w w6) := Lib.hid (KW5.out.trans k6 (fun y hy => .inr (Nat.le_of_lt (HFV.out y hy))))
      have BB6 := Lib.hid (BB5.out.keep k6 (fun hy => by have := HFV.out _ hy; omega))
      have HT6 := Lib.hid (own_keep HT5.out k6 (fun y hy hyA => by have := (HIN.out y hy).2; have := HFV.out y hyA; omega))
      have F6 : Hid (∀ y ∈ fp v6, w.heap.size < y) := Lib.hid (fun y hy => (f6 y hy).elim (HFV.out y) (fun h => by have := BB5.out.lt; omega))
      have hlv6 := own_fp_pos O6.out
      have f16 : w6.cell? ⟨p, 1, none⟩ = some (.slice (some ⟨g, 0, none⟩) s5.li.length c) := HP6.out.b.cell 1
      have IX6 := Lib.hid (ix_stray w6 _ s5.li c w.heap.size l it (AtR.of_own HP6.out.o (by rw [List.length_append] at hl2; omega)) (STB.out _ HT6.out BB6.out))
      clear o6 k6 f6 hFw HP5 KW5 HO5 OO5 HFV BB5 HT5
      go_wp2_with fail
      refine IX6.out.mono ?_
      rintro e w7 ⟨rfl, k7⟩
      have O7 := Lib.hid (own_keep O6.out k7 (by simp))
      have HP7 := Lib.hid (HP6.out.keep0 k7)
      have K7 := Lib.hid (K6.out.trans k7 (by simp))
      have BB7 := Lib.hid (BB6.out.keep k7 (by simp))
      have HT7 := Lib.hid (own_keep HT6.out k7 (by simp))
      clear k7 O6 HP6 K6 BB6 IX6 f16 HT6
      go_wp2_with fail
      go_roundw
      case rel => exact ⟨s5, o1 ++ o5, f5, nc1 + 1, M1 + 1, rfl, O7.out, HP7.out, HB5.out, HCU5.out, hl2, HS5.out, HSB5.out, HC5.out, hM5, hN5, K7.out, BB7.out, HT7.out, F6.out⟩
      case measure => rw [hlv6, hlv, List.length_append]; rw [List.length_append] at hl2; omega
end Go.Proofs.YtcopjjokhjealaaGreat
namespace Go.Proofs.YtcopjjokhjealaaGreat
open Go.RowKit

noncomputable def setIt (s : Pl) (l : Int) (n : Ln) (its : List Int) : Pl := ⟨updG s.ln l (some ⟨n.par, n.pid, its⟩), s.li, s.ct⟩
/-- A line laid into the map. -/
theorem line_rep {w w' : World} {F : List Nat} {p : Nat} {s : Pl} {lm cm nl nc c : Nat} {A : Option Addr} {f : Int → Option LnV} {l : Int} {n : Ln} {v : LnV} (h : PlAt w F p s lm cm nl nc A c f)
    (h1 : GMap kI eL w' lm (nl + 1) (updG f l (some v))) (k1 : Keeps [lm] w w') (hv : LnAt w l v n) :
    PlAt w' F p ⟨updG s.ln l (some n), s.li, s.ct⟩ lm cm (nl + 1) nc A c (updG f l (some v)) ∧ Keeps F w w' := by
  have hF := h.fF
  have hlp : lm ≠ p := fun e => h.ml.ne_blk h.b e
  have hlA : lm ∉ fp (.slice A s.li.length c) := h.ml.off h.o
  have hint : ∀ y ∈ [lm], ¬ IntRow w y := fun y hy => h.noInt y (by rw [hF, List.mem_singleton.1 hy]; simp)
  have hls := h.ls.keep k1 hint
  obtain ⟨v1, v2, v3, v4, v5⟩ := hv
  refine ⟨⟨hF, h.b.keep k1 (by simpa using hlp.symm), h1, h.mc.keep k1 (by simpa using h.lc.symm), h.lc, own_keep h.o k1 (fun g hg hm => by rw [List.mem_singleton.1 hm] at hg; exact hlA hg), fun x => ?_⟩, k1.mono (fun y hy => by rw [hF, List.mem_singleton.1 hy]; simp)⟩
  by_cases e : x = l
  · subst e
    exact .inr ⟨v, n, updG_same _ _ _, updG_same _ _ _, v1, v2, v3, v4, own_keep v5 k1 (fun g hg hm => by
      rw [List.mem_singleton.1 hm] at hg
      exact hint lm (by simp) (own_int v5 lm hg))⟩
  · rcases hls x with ⟨a, b⟩ | ⟨v', n', a, b, r⟩
    · exact .inl ⟨by rw [updG_ne _ _ e]; exact a, (updG_ne s.ln (some n) e).trans b⟩
    · exact .inr ⟨v', n', by rw [updG_ne _ _ e]; exact a, (updG_ne s.ln (some n) e).trans b, r⟩
noncomputable def com16C : Code := ((Tryz.f19.body.bind (theRegion 16)).getD .skip)
set_option maxRecDepth 1000000 in
set_option maxHeartbeats 1600000 in
set_option linter.unusedSimpArgs false in
theorem com16_any (w : World) (p q lm nl : Nat) (l : Int) (v : LnV) (f : Int → Option LnV) (K : Exit → Act → World → Prop)
    (hS : ∀ W, Keeps [] w W → W.cell? ⟨p, 0, none⟩ = some (.map (some lm)) ∧ Blk W q 56 #[.int .i64 v.id, .int .i64 v.par, .int .i64 v.pid, .slice (v.b.map fun g => ⟨g, 0, none⟩) v.n v.c] ∧ GMap kI eL W lm nl f) (hok : kI.ok l) (hn : nl < maxLen)
    (u2 u3 u4 u5 u6 u7 u8 u9 u10 u12 u13 u14 u15 u16 u17 u18 u19 u20 u21 u22 u23 u24 u25 u26 u27 u28 u29 u30 u31 u32 u33 u34 u35 u36 u37 u38 u39 u40 u41 u42 u43 u44 u45 u46 u47 u48 u49 u50 u51 u52 u53 u54 u55 u56 u57 u58 u59 u60 u61 u62 u63 u64 u65 u66 u67 u68 u69 u70 u71 u72 u73 u74 u75 u76 u77 u78 u79 u80 u81 u82 u83 u84 u85 : Value)
    (hK : ∀ (v77 v78 v79 v80 v81 v82 : Value) (W : World), GMap kI eL W lm (nl + 1) (updG f l (some v)) → Keeps [lm] w W → K .normal ⟨#[.pointer (some ⟨p, 0, none⟩), .int .i64 l, u2, u3, u4, u5, u6, u7, u8, u9, u10, .pointer (some ⟨q, 0, none⟩), u12, u13, u14, u15, u16, u17, u18, u19, u20, u21, u22, u23, u24, u25, u26, u27, u28, u29, u30, u31, u32, u33, u34, u35, u36, u37, u38, u39, u40, u41, u42, u43, u44, u45, u46, u47, u48, u49, u50, u51, u52, u53, u54, u55, u56, u57, u58, u59, u60, u61, u62, u63, u64, u65, u66, u67, u68, u69, u70, u71, u72, u73, u74, u75, u76, v77, v78, v79, v80, v81, v82, u83, u84, u85], []⟩ W) :
    Code.wp Tryz.prog com16C K ⟨#[.pointer (some ⟨p, 0, none⟩), .int .i64 l, u2, u3, u4, u5, u6, u7, u8, u9, u10, .pointer (some ⟨q, 0, none⟩), u12, u13, u14, u15, u16, u17, u18, u19, u20, u21, u22, u23, u24, u25, u26, u27, u28, u29, u30, u31, u32, u33, u34, u35, u36, u37, u38, u39, u40, u41, u42, u43, u44, u45, u46, u47, u48, u49, u50, u51, u52, u53, u54, u55, u56, u57, u58, u59, u60, u61, u62, u63, u64, u65, u66, u67, u68, u69, u70, u71, u72, u73, u74, u75, u76, u77, u78, u79, u80, u81, u82, u83, u84, u85], []⟩ w := by
  have HS := Lib.hid hS
  clear hS
  conv => arg 2; whnf
  try dsimp only at hK ⊢
  refine wp_region_noPanic ?_
  refine wp_region_last (S := fun W => W.cell? ⟨p, 0, none⟩ = some (.map (some lm)) ∧ Blk W q 56 #[.int .i64 v.id, .int .i64 v.par, .int .i64 v.pid, .slice (v.b.map fun g => ⟨g, 0, none⟩) v.n v.c] ∧ GMap kI eL W lm nl f) 6 (by kernel_rfl) (HS.out _ ((Keeps.refl [] w).drew)) (fun hHeld => ?_)
  obtain ⟨w0, hw0⟩ : ∃ w0, w.drew = w0 := ⟨_, rfl⟩
  try rw [hw0] at hHeld
  rw [hw0]
  have K0 : Keeps [] w w0 := by rw [← hw0]; exact (Keeps.refl [] w).drew
  clear hw0
  refine wpG_take (nx := [1, 2, 3, 6, 6, 6]) (i := 0) (oi := ⟨some 77, Op.move (Operand.tmp 0), 26, _, _, none⟩) (v := ?vq1) (by kernel_rfl) rfl (by decide) (by kernel_rfl) (by kernel_rfl) (by kernel_rfl) (fun _ _ _ h => h) (Or.inl ⟨by rfl, fun W hW => ?_⟩) (by assumption) ?_
  rotate_left
  · go_simp
    with_reducible rfl
  try simp only [Act.put, List.setIfInBounds_toArray, List.set_cons_zero, List.set_cons_succ]
  refine wpG_take (nx := [1, 2, 3, 6, 6, 6]) (i := 1) (oi := ⟨some 78, Op.nilCheck (Operand.tmp 77), 0, _, _, none⟩) (v := ?vq2) (by kernel_rfl) rfl (by decide) (by kernel_rfl) (by kernel_rfl) (by kernel_rfl) (fun _ _ _ h => h) (Or.inl ⟨by rfl, fun W hW => ?_⟩) (by assumption) ?_
  rotate_left
  · go_simp
    with_reducible rfl
  try simp only [Act.put, List.setIfInBounds_toArray, List.set_cons_zero, List.set_cons_succ]
  refine wpG_take (nx := [1, 2, 3, 6, 6, 6]) (i := 2) (oi := ⟨some 79, Op.fieldAddr 61 (Operand.tmp 78) 0, 0, _, _, none⟩) (v := ?vq3) (by kernel_rfl) rfl (by decide) (by kernel_rfl) (by kernel_rfl) (by kernel_rfl) (fun _ _ _ h => h) (Or.inl ⟨by rfl, fun W hW => ?_⟩) (by assumption) ?_
  rotate_left
  · go_simp
    with_reducible rfl
  try simp only [Act.put, List.setIfInBounds_toArray, List.set_cons_zero, List.set_cons_succ]
  refine wpG_take (nx := [1, 2, 3, 6, 6, 6]) (i := 3) (oi := ⟨some 80, Op.load 57 (Operand.tmp 79), 57, _, _, none⟩) (v := .map (some lm)) (by kernel_rfl) rfl (by decide) (by kernel_rfl) (by kernel_rfl) (by kernel_rfl) (fun _ _ _ h => h) (Or.inl ⟨by rfl, fun W hW => ?_⟩) (by assumption) ?_
  · (have a0 := hW.1; clear hW; go_simp)
  try simp only [Act.put, List.setIfInBounds_toArray, List.set_cons_zero, List.set_cons_succ]
  refine wpG_take (nx := [1, 2, 3, 6, 6, 6]) (i := 4) (oi := ⟨some 81, Op.move (Operand.tmp 1), 3, _, _, none⟩) (v := ?vq4) (by kernel_rfl) rfl (by decide) (by kernel_rfl) (by kernel_rfl) (by kernel_rfl) (fun _ _ _ h => h) (Or.inl ⟨by rfl, fun W hW => ?_⟩) (by assumption) ?_
  rotate_left
  · go_simp
    with_reducible rfl
  try simp only [Act.put, List.setIfInBounds_toArray, List.set_cons_zero, List.set_cons_succ]
  refine wpG_take (nx := [1, 2, 3, 6, 6, 6]) (i := 5) (oi := ⟨some 82, Op.load 56 (Operand.tmp 11), 56, _, _, none⟩) (v := .agg #[.int .i64 v.id, .int .i64 v.par, .int .i64 v.pid, .slice (v.b.map fun g => ⟨g, 0, none⟩) v.n v.c]) (by kernel_rfl) rfl (by decide) (by kernel_rfl) (by kernel_rfl) (by kernel_rfl) (fun _ _ _ h => h) (Or.inl ⟨by rfl, fun W hW => ?_⟩) (by assumption) ?_
  · (have a0 := hW.2.1.cell 0; have a1 := hW.2.1.cell 1; have a2 := hW.2.1.cell 2; have a3 := hW.2.1.cell 3; clear hW; go_simp)
  try simp only [Act.put, List.setIfInBounds_toArray, List.set_cons_zero, List.set_cons_succ]
  refine wpG_ready (rs := [6]) (by kernel_rfl) (by simp) ?_
  refine AllG.last (o := ⟨none, Op.mapUpdate 57 (Operand.tmp 80) (Operand.tmp 81) (Operand.tmp 82), 0, _, _, none⟩) rfl (fun KK hKK => ?_)
  refine step_updG (S := kI) (E := eL) rfl _ _ _ 57 rfl Tryz.underlying57 lm nl f (by first | (simp [Act.eval]; done) | (simp [Act.eval, Act.put]; done)) (HS.out _ K0).2.2 hn l v (show _ = Value.int .i64 l by first | (simp [Act.eval]; done) | (simp [Act.eval, Act.put]; done)) (show _ = Value.agg #[.int .i64 v.id, .int .i64 v.par, .int .i64 v.pid, .slice (v.b.map fun g => ⟨g, 0, none⟩) v.n v.c] by first | (simp [Act.eval]; done) | (simp [Act.eval, Act.put]; done)) hok ?_
  intro W5 mo6 k7
  have K9 : Keeps [lm] w W5 := (K0.mono (by simp)).trans k7 (by simp)
  refine hKK.out _ _ ?_
  clear hKK KK
  try simp only [Act.put, List.setIfInBounds_toArray, List.set_cons_zero, List.set_cons_succ]
  refine wpG_done (by kernel_rfl) ?_ _
  refine NoPanic.normal ?_
  exact hK _ _ _ _ _ _ _ mo6 K9
end Go.Proofs.YtcopjjokhjealaaGreat
