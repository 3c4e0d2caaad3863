/- Texts of the elder seat, turned to this one: W33 W34. -/
import Derived.Test.YtcopjjokhjealaaGreatM8
namespace Go.Proofs.YtcopjjokhjealaaGreat
open Go.RowKit

noncomputable def nes15C : Code := ((Tryz.f20.body.bind (theRegion 15)).getD .skip)
set_option maxRecDepth 1000000 in
set_option maxHeartbeats 1600000 in
set_option linter.unusedSimpArgs false in
theorem nes15_any (w : World) (p lm nl c : Nat) (A : Option Addr) (L : List Int) (f : Int → Option LnV) (id par pid : Int) (K : Exit → Act → World → Prop)
    (hS : ∀ W, Keeps [] w W → W.cell? ⟨p, 0, none⟩ = some (.map (some lm)) ∧ GMap kI eL W lm nl f) (hn : nl < maxLen) (hok : kI.ok id)
    (hZ : ∀ W, Keeps [] w W → AtZ W A L)
    (u4 u5 u6 u7 u8 u9 u10 u11 u13 u14 u15 u16 u17 u18 u19 u20 u21 u22 u23 u24 u25 u26 u27 u28 u29 u30 u31 u32 u33 u34 u35 u36 u37 u38 u39 u40 u41 u42 u43 u44 u45 u46 u47 u48 u49 u50 u51 u52 u53 u54 u55 u56 u57 u58 u59 u60 u61 : Value)
    (hK : ∀ (v50 v51 v52 v53 v54 v55 v56 v57 v58 v59 v60 : Value) (g : Option Nat) (ci : Nat) (W1 W : World), Keeps [] w W1 → W1.ownsRow 0 3 1 (.slice (g.map fun g => ⟨g, 0, none⟩) L.length ci) L.length (zs L) → GMap kI eL W lm (nl + 1) (updG f id (some ⟨id, par, pid, g, L.length, ci⟩)) → Keeps [lm] W1 W → K .normal ⟨#[.pointer (some ⟨p, 0, none⟩), .int .i64 par, .int .i64 pid, .slice A L.length c, u4, u5, u6, u7, u8, u9, u10, u11, .int .i64 id, u13, u14, u15, u16, u17, u18, u19, u20, u21, u22, u23, u24, u25, u26, u27, u28, u29, u30, u31, u32, u33, u34, u35, u36, u37, u38, u39, u40, u41, u42, u43, u44, u45, u46, u47, u48, u49, v50, v51, v52, v53, v54, v55, v56, v57, v58, v59, v60, u61], []⟩ W) :
    Code.wp Tryz.prog nes15C K ⟨#[.pointer (some ⟨p, 0, none⟩), .int .i64 par, .int .i64 pid, .slice A L.length c, u4, u5, u6, u7, u8, u9, u10, u11, .int .i64 id, u13, u14, u15, u16, u17, u18, u19, u20, u21, u22, u23, u24, u25, u26, u27, u28, u29, u30, u31, u32, u33, u34, u35, u36, u37, u38, u39, u40, u41, u42, u43, u44, u45, u46, u47, u48, u49, u50, u51, u52, u53, u54, u55, u56, u57, u58, u59, u60, u61], []⟩ w := by
  have HS := Lib.hid hS
  have HZ := Lib.hid hZ
  clear hS hZ
  conv => arg 2; whnf
  try dsimp only at hK ⊢
  refine wp_region_noPanic ?_
  refine wp_region_last (S := fun W => W.cell? ⟨p, 0, none⟩ = some (.map (some lm)) ∧ GMap kI eL W lm nl f) 11 (by kernel_rfl) (HS.out _ ((Keeps.refl [] w).drew)) (fun hHeld => ?_)
  obtain ⟨w0, hw0⟩ : ∃ w0, w.drew = w0 := ⟨_, rfl⟩
  try rw [hw0] at hHeld
  rw [hw0]
  have K0 : Keeps [] w w0 := by rw [← hw0]; exact (Keeps.refl [] w).drew
  clear hw0
  refine wpG_take (nx := [1, 2, 3, 11, 11, 10, 10, 10, 9, 10, 11]) (i := 0) (oi := ⟨some 50, Op.move (Operand.tmp 0), 26, _, _, none⟩) (v := ?vq1) (by kernel_rfl) rfl (by decide) (by kernel_rfl) (by kernel_rfl) (by kernel_rfl) (fun _ _ _ h => h) (Or.inl ⟨by rfl, fun W hW => ?_⟩) (by assumption) ?_
  rotate_left
  · go_simp
    with_reducible rfl
  try simp only [Act.put, List.setIfInBounds_toArray, List.set_cons_zero, List.set_cons_succ]
  refine wpG_take (nx := [1, 2, 3, 11, 11, 10, 10, 10, 9, 10, 11]) (i := 1) (oi := ⟨some 51, Op.nilCheck (Operand.tmp 50), 0, _, _, none⟩) (v := ?vq2) (by kernel_rfl) rfl (by decide) (by kernel_rfl) (by kernel_rfl) (by kernel_rfl) (fun _ _ _ h => h) (Or.inl ⟨by rfl, fun W hW => ?_⟩) (by assumption) ?_
  rotate_left
  · go_simp
    with_reducible rfl
  try simp only [Act.put, List.setIfInBounds_toArray, List.set_cons_zero, List.set_cons_succ]
  refine wpG_take (nx := [1, 2, 3, 11, 11, 10, 10, 10, 9, 10, 11]) (i := 2) (oi := ⟨some 52, Op.fieldAddr 61 (Operand.tmp 51) 0, 0, _, _, none⟩) (v := ?vq3) (by kernel_rfl) rfl (by decide) (by kernel_rfl) (by kernel_rfl) (by kernel_rfl) (fun _ _ _ h => h) (Or.inl ⟨by rfl, fun W hW => ?_⟩) (by assumption) ?_
  rotate_left
  · go_simp
    with_reducible rfl
  try simp only [Act.put, List.setIfInBounds_toArray, List.set_cons_zero, List.set_cons_succ]
  refine wpG_take (nx := [1, 2, 3, 11, 11, 10, 10, 10, 9, 10, 11]) (i := 3) (oi := ⟨some 53, Op.load 57 (Operand.tmp 52), 57, _, _, none⟩) (v := .map (some lm)) (by kernel_rfl) rfl (by decide) (by kernel_rfl) (by kernel_rfl) (by kernel_rfl) (fun _ _ _ h => h) (Or.inl ⟨by rfl, fun W hW => ?_⟩) (by assumption) ?_
  · (have a0 := hW.1; clear hW; go_simp)
  try simp only [Act.put, List.setIfInBounds_toArray, List.set_cons_zero, List.set_cons_succ]
  refine wpG_take (nx := [1, 2, 3, 11, 11, 10, 10, 10, 9, 10, 11]) (i := 4) (oi := ⟨some 54, Op.move (Operand.tmp 12), 3, _, _, none⟩) (v := ?vq4) (by kernel_rfl) rfl (by decide) (by kernel_rfl) (by kernel_rfl) (by kernel_rfl) (fun _ _ _ h => h) (Or.inl ⟨by rfl, fun W hW => ?_⟩) (by assumption) ?_
  rotate_left
  · go_simp
    with_reducible rfl
  try simp only [Act.put, List.setIfInBounds_toArray, List.set_cons_zero, List.set_cons_succ]
  refine wpG_take (nx := [1, 2, 3, 11, 11, 10, 10, 10, 9, 10, 11]) (i := 5) (oi := ⟨some 55, Op.move (Operand.tmp 12), 3, _, _, none⟩) (v := ?vq5) (by kernel_rfl) rfl (by decide) (by kernel_rfl) (by kernel_rfl) (by kernel_rfl) (fun _ _ _ h => h) (Or.inl ⟨by rfl, fun W hW => ?_⟩) (by assumption) ?_
  rotate_left
  · go_simp
    with_reducible rfl
  try simp only [Act.put, List.setIfInBounds_toArray, List.set_cons_zero, List.set_cons_succ]
  refine wpG_take (nx := [1, 2, 3, 11, 11, 10, 10, 10, 9, 10, 11]) (i := 6) (oi := ⟨some 56, Op.move (Operand.tmp 1), 3, _, _, none⟩) (v := ?vq6) (by kernel_rfl) rfl (by decide) (by kernel_rfl) (by kernel_rfl) (by kernel_rfl) (fun _ _ _ h => h) (Or.inl ⟨by rfl, fun W hW => ?_⟩) (by assumption) ?_
  rotate_left
  · go_simp
    with_reducible rfl
  try simp only [Act.put, List.setIfInBounds_toArray, List.set_cons_zero, List.set_cons_succ]
  refine wpG_take (nx := [1, 2, 3, 11, 11, 10, 10, 10, 9, 10, 11]) (i := 7) (oi := ⟨some 57, Op.move (Operand.tmp 2), 3, _, _, none⟩) (v := ?vq7) (by kernel_rfl) rfl (by decide) (by kernel_rfl) (by kernel_rfl) (by kernel_rfl) (fun _ _ _ h => h) (Or.inl ⟨by rfl, fun W hW => ?_⟩) (by assumption) ?_
  rotate_left
  · go_simp
    with_reducible rfl
  try simp only [Act.put, List.setIfInBounds_toArray, List.set_cons_zero, List.set_cons_succ]
  refine wpG_take (nx := [1, 2, 3, 11, 11, 10, 10, 10, 9, 10, 11]) (i := 8) (oi := ⟨some 58, Op.move (Operand.tmp 3), 22, _, _, none⟩) (v := ?vq8) (by kernel_rfl) rfl (by decide) (by kernel_rfl) (by kernel_rfl) (by kernel_rfl) (fun _ _ _ h => h) (Or.inl ⟨by rfl, fun W hW => ?_⟩) (by assumption) ?_
  rotate_left
  · go_simp
    with_reducible rfl
  try simp only [Act.put, List.setIfInBounds_toArray, List.set_cons_zero, List.set_cons_succ]
  refine wpG_ready (rs := [9]) (by kernel_rfl) (by simp) ?_
  refine AllG.cons (o := ⟨some 59, Op.call { callee := Callee.value (Operand.func 24), args := #[Operand.tmp 58], argTypes := #[22] }, 22, _, _, none⟩) rfl (fun KK hKK => ?_) AllG.nil
  refine step_callW (by rfl) 24 _ _ rfl #[.slice A L.length c] (by first | (simp [Act.eval]; done) | (simp [Act.eval, Act.put]; done)) (enters_of Tryz.func24 (by kernel_rfl) rfl) (cloneI_any _ A L c (HZ.out _ K0)) ?_
  rintro e W9 ⟨v10, rfl, o11, k12, f13⟩
  refine ⟨_, rfl, ?_⟩
  have K14 : Keeps [] w W9 := K0.trans k12 (by simp)
  obtain ⟨g15, c16, hvv10, hsv10⟩ := own_opt o11
  subst hvv10
  refine hKK.out _ _ (HS.out _ K14) (fun hHeld => ?_)
  clear hKK KK
  try simp only [Act.put, List.setIfInBounds_toArray, List.set_cons_zero, List.set_cons_succ]
  refine wpG_take (nx := [1, 2, 3, 11, 11, 10, 10, 10, 9, 10, 11]) (i := 10) (oi := ⟨some 60, Op.build 56 #[(0, Operand.tmp 55), (1, Operand.tmp 56), (2, Operand.tmp 57), (3, Operand.tmp 59)], 56, _, _, none⟩) (v := .agg #[.int .i64 id, .int .i64 par, .int .i64 pid, .slice (g15.map fun g => ⟨g, 0, none⟩) L.length c16]) (by kernel_rfl) rfl (by decide) (by kernel_rfl) (by kernel_rfl) (by kernel_rfl) (fun _ _ _ h => h) (Or.inl ⟨by rfl, fun W hW => ?_⟩) (by assumption) ?_
  · go_simp
  try simp only [Act.put, List.setIfInBounds_toArray, List.set_cons_zero, List.set_cons_succ]
  refine wpG_ready (rs := [11]) (by kernel_rfl) (by simp) ?_
  refine AllG.last (o := ⟨none, Op.mapUpdate 57 (Operand.tmp 53) (Operand.tmp 54) (Operand.tmp 60), 0, _, _, none⟩) rfl (fun KK hKK => ?_)
  refine step_updG (S := kI) (E := eL) rfl _ _ _ 57 rfl Tryz.underlying57 lm nl f (by first | (simp [Act.eval]; done) | (simp [Act.eval, Act.put]; done)) (HS.out _ K14).2 hn id ⟨id, par, pid, g15, L.length, c16⟩ (show _ = Value.int .i64 id by first | (simp [Act.eval]; done) | (simp [Act.eval, Act.put]; done)) (show _ = Value.agg #[.int .i64 id, .int .i64 par, .int .i64 pid, .slice (g15.map fun g => ⟨g, 0, none⟩) L.length c16] by first | (simp [Act.eval]; done) | (simp [Act.eval, Act.put]; done)) hok ?_
  intro W17 mo18 k19
  refine hKK.out _ _ ?_
  clear hKK KK
  try simp only [Act.put, List.setIfInBounds_toArray, List.set_cons_zero, List.set_cons_succ]
  refine wpG_done (by kernel_rfl) ?_ _
  refine NoPanic.normal ?_
  exact hK _ _ _ _ _ _ _ _ _ _ _ g15 c16 _ _ K14 o11 mo18 k19
end Go.Proofs.YtcopjjokhjealaaGreat
namespace Go.Proofs.YtcopjjokhjealaaGreat
open Go.RowKit

/-- How many lines there are. -/
def cntL (s : Pl) : Nat := ((List.range 32).filter (fun k : Nat => (s.ln (k : Int)).isSome)).length
theorem cntL_of {s : Pl} (hid : ∀ x n, s.ln x = some n → 0 ≤ x ∧ x < 32) {ks : List Int} (hn : ks.Nodup) (hm : ∀ x, x ∈ ks ↔ (s.ln x).isSome = true) : ks.length = cntL s := by
  have hp : ks.Perm (((List.range 32).filter (fun k : Nat => (s.ln (k : Int)).isSome)).map (fun k : Nat => (k : Int))) := by
    rw [List.perm_ext_iff_of_nodup hn]
    · intro x
      rw [hm, List.mem_map]
      constructor
      · intro hx
        obtain ⟨n, hx'⟩ := Option.isSome_iff_exists.1 hx
        obtain ⟨h0, h1⟩ := hid x n hx'
        refine ⟨x.toNat, ?_, by omega⟩
        rw [List.mem_filter, List.mem_range]
        exact ⟨by omega, by rw [show ((x.toNat : Nat) : Int) = x by omega]; exact hx⟩
      · rintro ⟨k, hk, rfl⟩
        exact (List.mem_filter.1 hk).2
    · refine List.pairwise_map.2 (List.Pairwise.imp (fun hne e => hne (by omega)) (List.Nodup.sublist List.filter_sublist List.nodup_range))
  rw [hp.length_eq, List.length_map]
  rfl
/-- The least number from 1 on that no line has. -/
def IsNew (s : Pl) (id : Int) : Prop := 1 ≤ id ∧ s.ln id = none ∧ ∀ j, 1 ≤ j → j < id → (s.ln j).isSome = true
theorem IsNew.lt {s : Pl} {id : Int} (h : IsNew s id) (h0 : (s.ln 0).isSome = true) (hc : cntL s < 32) : id < 32 := by
  rcases Int.lt_or_le id 32 with h1 | h1
  · exact h1
  · exfalso
    have e : ((List.range 32).filter (fun k : Nat => (s.ln (k : Int)).isSome)) = List.range 32 := by
      rw [List.filter_eq_self]
      intro k hk
      rw [List.mem_range] at hk
      by_cases hz : k = 0
      · subst hz; exact h0
      · exact h.2.2 k (by omega) (by omega)
    unfold cntL at hc
    rw [e, List.length_range] at hc
    omega
/-- What Nest does. -/
def NesR (par pid : Int) (its : List Int) (s s' : Pl) (n e : Int) : Prop :=
  (rightL its = false ∧ s' = s ∧ n = 0 ∧ e = 1) ∨ (rightL its = true ∧ triI s.li par < 0 ∧ s' = s ∧ n = 0 ∧ e = 4) ∨
  (rightL its = true ∧ ¬ triI s.li par < 0 ∧ (∃ x m, s.ln x = some m ∧ m.par = par ∧ m.pid = pid) ∧ s' = s ∧ n = 0 ∧ e = 5) ∨
  (rightL its = true ∧ ¬ triI s.li par < 0 ∧ (¬ ∃ x m, s.ln x = some m ∧ m.par = par ∧ m.pid = pid) ∧ 32 ≤ cntL s ∧ s' = s ∧ n = 0 ∧ e = 6) ∨
  (rightL its = true ∧ ¬ triI s.li par < 0 ∧ (¬ ∃ x m, s.ln x = some m ∧ m.par = par ∧ m.pid = pid) ∧ cntL s < 32 ∧ IsNew s n ∧ s' = ⟨updG s.ln n (some ⟨par, pid, its⟩), s.li, s.ct⟩ ∧ e = 0)
theorem wpList_lenG {kt : TypeId} {κ V : Type} {S : KeyS kt κ} {E : ElS V} {w : World} {b n : Nat} {f : κ → Option V} {ops : Array Oper} {rest : List Oper} {o : Oper} {a : Act} {Q : Exit → Act → World → Prop} (hg : o.guard = none) (m : Operand) (t : TypeId) (hop : o.op = Op.call { callee := Callee.builtin Builtin.len, args := #[m], argTypes := #[t] })
    {e : TypeId} (ht : Tryz.prog.underlying t = some (.map kt e)) (hm : a.eval m = .map (some b)) (h : GMap S E w b n f)
    (hK : ∀ ks : List κ, ks.Nodup → (∀ x ∈ ks, S.ok x) → (∀ x, S.ok x → (x ∈ ks ↔ (f x).isSome = true)) → wpList Tryz.prog ops Q rest (a.put o.dst (.int .i64 ks.length)) w) :
    wpList Tryz.prog ops Q (o :: rest) a w := by
  refine wpList_plain hg fun K' hK' => ?_
  obtain ⟨ks, k1, k2, k3, k4⟩ := h.size
  unfold Oper.wp
  simp [execOp, hop, resolve, invoke, builtin, hm, k4 ht o.type, Result.andThen]
  exact hK' _ _ (hK ks k1 k2 k3)
/-- No line seen so far is the one. -/
def NoTw (s : Pl) (par pid : Int) (left : Int → Prop) : Prop := ∀ x m, s.ln x = some m → ¬ left x → ¬ (m.par = par ∧ m.pid = pid)
set_option maxRecDepth 100000 in
set_option maxHeartbeats 12800000 in
theorem nest_any (w : World) (F : List Nat) (p : Nat) (s : Pl) (Φ : Nat) (h : PR w F p s Φ) (hΦ : Φ ≤ 900) (hid : ∀ x n, s.ln x = some n → 0 ≤ x ∧ x < 32)
    (par pid : Int) (Ai : Option Addr) (its : List Int) (ci : Nat) (hz : AtZ w Ai its) (hir : ∀ x ∈ its, -9223372036854775808 ≤ x ∧ x ≤ 9223372036854775807) :
    Calls Tryz.prog 20 #[.pointer (some ⟨p, 0, none⟩), .int .i64 par, .int .i64 pid, .slice Ai its.length ci] w fun e w' =>
      ∃ s' n en, e = .returned (.tuple #[.int .i64 n, .int .i64 en]) ∧ NesR par pid its s s' n en ∧ PR w' F p s' (Φ + 1) ∧ Keeps F w w' := by
  have hPR := h
  obtain ⟨lm, cm, nl, nc, A, c, f, h, hnl, hnc⟩ := h
  have hpl := h.b.lt
  have HPW := Lib.hid hPR
  have HH := Lib.hid h
  have HS : Hid (∀ x n, s.ln x = some n → kI.ok x) := Lib.hid (fun x n hx => by have := hid x n hx; exact kI_ok (by omega) (by omega))
  have HID := Lib.hid hid
  have HZ := Lib.hid hz
  have HIR := Lib.hid hir
  have FIN : Hid (∀ W, Keeps [] w W → PR W F p s (Φ + 1) ∧ Keeps F w W) := Lib.hid (fun W kW => ⟨(HPW.out.keep0 kW).mono (by omega), kW.mono (by simp)⟩)
  obtain ⟨V, hV⟩ : ∃ V, rightL its = V := ⟨_, rfl⟩
  have HV := Lib.hid hV
  have RI := Lib.hid (right_any w Ai its ci hz hir)
  rw [hV] at RI
  clear h hPR hid hz hir hV
  go_enter Tryz.func20, Tryz.ntmps20
  go_wp2_with fail
  refine RI.out.mono ?_
  rintro e w1 ⟨rfl, k1⟩
  have K1 := Lib.hid k1
  clear k1 RI
  cases V with
  | false =>
    have HR : Hid (NesR par pid its s s 0 1) := Lib.hid (.inl ⟨HV.out, rfl, rfl, rfl⟩)
    go_wp2_with fail
    go_ret2
    exact ⟨s, 0, 1, rfl, HR.out, FIN.out _ K1.out⟩
  | true =>
  have TI := Lib.hid (trial_any w1 p A s.li c par ((HH.out.keep0 K1.out).b.cell 1) (AtR.of_own (HH.out.keep0 K1.out).o (by omega)))
  obtain ⟨T, hT⟩ : ∃ T, triI s.li par = T := ⟨_, rfl⟩
  have HT := Lib.hid hT
  rw [hT] at TI
  clear hT
  go_wp2_with fail
  refine TI.out.mono ?_
  rintro e w2 ⟨rfl, k2⟩
  have K2 := Lib.hid (K1.out.trans k2 (by simp))
  clear k2 TI K1
  by_cases hT0 : T < 0
  · have HR : Hid (NesR par pid its s s 0 4) := Lib.hid (.inr (.inl ⟨HV.out, by rw [HT.out]; exact hT0, rfl, rfl, rfl⟩))
    go_wp2_with fail
    go_ret2
    exact ⟨s, 0, 4, rfl, HR.out, FIN.out _ K2.out⟩
  have hT1 : Hid (0 ≤ triI s.li par) := Lib.hid (by rw [HT.out]; omega)
  have HP2 := Lib.hid (HH.out.keep0 K2.out)
  have f0 : w2.cell? ⟨p, 0, none⟩ = some (.map (some lm)) := HP2.out.b.cell 0
  have HM := Lib.hid HP2.out.ml
  have hlm2 := HP2.out.ml.lt
  clear HT
  go_wp2_with (at_range; refine wpList_rangeG rfl _ _ rfl Tryz.underlying57 rfl HM.out ?_; intro w3 cnt0 hc0 hr0 k0 hz0)
  go_frame
  have HR0 := Lib.hid hr0
  have K3 := Lib.hid (K2.out.trans k0 (by simp))
  have hnr : w2.heap.size ≠ lm := by omega
  have hpl2 := HP2.out.b.lt
  clear hr0 k0 HM hz0
  go_loopw [11] (fun _ wr => ∃ (left : Int → Prop) (cnt : Nat), GRng kI eL wr lm w2.heap.size nl f left cnt ∧ NoTw s par pid left ∧ Keeps [] w wr) (fun _ wr => wr.rangeLeft lm w2.heap.size)
  case atStart => exact ⟨_, cnt0, HR0.out, fun x m hx hl => absurd ((HH.out.ls.some_iff x).2 (by rw [hx]; rfl)) hl, K3.out⟩
  case round =>
    obtain ⟨left, cnt, hr, hno, kp⟩ := hrel
    have HR := Lib.hid hr
    have HNO := Lib.hid hno
    have KP := Lib.hid kp
    have hle := hr.left_eq
    clear hr hno kp HR0 K3
    go_wp2_with (at_next; refine wpList_nextG rfl _ rfl rfl HR.out ?_ ?_)
    · intro hdone
      have HNT : Hid (¬ ∃ x m, s.ln x = some m ∧ m.par = par ∧ m.pid = pid) := Lib.hid (fun ⟨x, m, hx, hp⟩ => HNO.out x m hx (hdone x (HS.out x m hx)) hp)
      have HPr := Lib.hid (HH.out.keep0 KP.out)
      have fr0 : wr.cell? ⟨p, 0, none⟩ = some (.map (some lm)) := HPr.out.b.cell 0
      have hplr := HPr.out.b.lt
      have HMr := Lib.hid HPr.out.ml
      clear hdone HR HNO hle f0
      go_wp2_with (at_len; refine wpList_lenG rfl _ _ rfl Tryz.underlying57 rfl HMr.out ?_; intro ks ks1 ks2 ks3)
      · have h32 : (32 : Int) ≤ (ks.length : Int) := by assumption
        have hlen : ks.length = cntL s := cntL_of HID.out ks1 (fun x => by
          rw [← HH.out.ls.some_iff x]
          constructor
          · intro hx; exact (ks3 x (ks2 x hx)).1 hx
          · intro hx
            have h2 := (HH.out.ls.some_iff x).1 hx
            obtain ⟨n, hn⟩ := Option.isSome_iff_exists.1 h2
            exact (ks3 x (HS.out x n hn)).2 hx)
        have HR : Hid (NesR par pid its s s 0 6) := Lib.hid (.inr (.inr (.inr (.inl ⟨HV.out, Int.not_lt.2 hT1.out, HNT.out, by omega, rfl, rfl, rfl⟩))))
        clear ks1 ks2 ks3 hlen
        go_ret2
        exact ⟨s, 0, 6, rfl, HR.out, FIN.out _ KP.out⟩
      have h32 : (ks.length : Int) < 32 := by assumption
      have hlen : ks.length = cntL s := cntL_of HID.out ks1 (fun x => by
        rw [← HH.out.ls.some_iff x]
        constructor
        · intro hx; exact (ks3 x (ks2 x hx)).1 hx
        · intro hx
          have h2 := (HH.out.ls.some_iff x).1 hx
          obtain ⟨n, hn⟩ := Option.isSome_iff_exists.1 h2
          exact (ks3 x (HS.out x n hn)).2 hx)
      have HC : Hid (cntL s < 32) := Lib.hid (by omega)
      clear ks1 ks2 ks3 hlen h32
      go_loopw [12] (fun iv wr2 => ∃ j : Nat, 1 ≤ j ∧ j ≤ 32 ∧ iv = .int .i64 j ∧ (∀ m : Int, 1 ≤ m → m < j → (s.ln m).isSome = true) ∧ Keeps [] w wr2) (fun iv _ => 33 - (intOf iv).toNat)
      case atStart => exact ⟨1, by omega, by omega, rfl, fun m h1 h2 => by omega, KP.out⟩
      case round =>
        obtain ⟨j, hj1, hj2, rfl, hall, kq⟩ := hrel
        have HALL := Lib.hid hall
        have KQ := Lib.hid kq
        have HPq := Lib.hid (HH.out.keep0 kq)
        have HC2 := Lib.hid (hasL_any wr p lm nl f j (HPq.out.b.cell 0) HPq.out.ml (by omega) (by omega))
        have hiff := HH.out.ls.some_iff j
        clear hall kq fr0 KP HPr HMr
        cases hb : (f j).isSome with
        | true =>
          have hsm : (s.ln j).isSome = true := hiff.1 hb
          have hj3 : j < 32 := by
            obtain ⟨n, hn⟩ := Option.isSome_iff_exists.1 hsm
            have := HID.out j n hn
            omega
          have HSM := Lib.hid hsm
          rw [hb] at HC2
          clear hiff hsm
          go_wp2_with fail
          refine HC2.out.mono ?_
          rintro e w5 ⟨rfl, k5⟩
          have K5 := Lib.hid (KQ.out.trans k5 (by simp))
          clear k5 KQ HC2
          go_wp2_with fail
          go_roundw
          case rel =>
            refine ⟨j + 1, by omega, by omega, by go_num, fun m h1 h2 => ?_, K5.out⟩
            by_cases e : m = j
            · rw [e]; exact HSM.out
            · exact HALL.out m h1 (by omega)
          case measure => simp [intOf]; omega
        | false =>
          have hsn : s.ln j = none := by
            cases hx : s.ln j with
            | none => rfl
            | some n => rw [hx, hb] at hiff; simp at hiff
          have HNEW : Hid (IsNew s j) := Lib.hid ⟨by omega, hsn, HALL.out⟩
          rw [hb] at HC2
          clear hiff hsn
          go_wp2_with fail
          refine HC2.out.mono ?_
          rintro e w5 ⟨rfl, k5⟩
          have K5 := Lib.hid (KQ.out.trans k5 (by simp))
          have HP5 := Lib.hid (HPq.out.keep0 k5)
          clear k5 KQ HC2 HPq
          go_upto_region 15 with fail
          refine nes15_any w5 p lm nl ci Ai its f j par pid _ (fun W kW => ⟨(HP5.out.keep0 kW).b.cell 0, (HP5.out.keep0 kW).ml⟩) (by unfold maxLen; omega) (kI_ok (by omega) (by omega)) (fun W kW => HZ.out.keep (K5.out.trans kW (by simp))) _ _ _ _ _ _ _ _ _ _ _ _ _ _ _ _ _ _ _ _ _ _ _ _ _ _ _ _ _ _ _ _ _ _ _ _ _ _ _ _ _ _ _ _ _ _ _ _ _ _ _ _ _ _ _ _ _ ?_
          intro v50 v51 v52 v53 v54 v55 v56 v57 v58 v59 v60 g7 c7 W1 W kw1 ho hm2 kw2
          have hrep := line_rep (n := ⟨par, pid, its⟩) (HP5.out.keep0 kw1) hm2 kw2 ⟨rfl, rfl, rfl, rfl, ho⟩
          have HRP := Lib.hid hrep
          have KF : Hid (Keeps F w W) := Lib.hid (((K5.out.trans kw1 (by simp)).mono (by simp)).trans hrep.2 (fun g hg => .inl hg))
          have HR : Hid (NesR par pid its s ⟨updG s.ln j (some ⟨par, pid, its⟩), s.li, s.ct⟩ j 0) := Lib.hid (.inr (.inr (.inr (.inr ⟨HV.out, Int.not_lt.2 hT1.out, HNT.out, HC.out, HNEW.out, rfl, rfl⟩))))
          clear kw1 ho hm2 kw2 hrep HP5 K5
          go_wp2_with fail
          go_ret2
          exact ⟨_, j, 0, rfl, HR.out, ⟨lm, cm, nl + 1, nc, A, c, _, HRP.out.1, by omega, by show nc + s.li.length ≤ _; omega⟩, KF.out⟩
    · intro x v w4 cnt' hok hfx hlx hr2 hlt k2 hz2 hen
      obtain ⟨n, hn, e1, e2, e3, e4, e5⟩ := HH.out.ls.get hfx
      have hen' : (Instr.entry (.pointer (some ⟨w2.heap.size, 0, none⟩))).run Tryz.prog w4 = .ok (.tuple #[.int .i64 x, .agg #[.int .i64 v.id, .int .i64 v.par, .int .i64 v.pid, .slice (v.b.map fun g => ⟨g, 0, none⟩) v.n v.c]]) w4 := hen
      obtain ⟨Aj, hAj⟩ : ∃ Aj, (v.b.map fun g => (⟨g, 0, none⟩ : Addr)) = Aj := ⟨_, rfl⟩
      rw [hAj, e2, e3] at hen'
      have hz4 := K2.out.size
      have KW : Hid (Keeps [] w w4) := Lib.hid (KP.out.trans k2 (fun g hg => .inr (by rw [List.mem_singleton.1 hg]; exact hz4)))
      have HR2 := Lib.hid hr2
      have HNX := Lib.hid hn
      obtain ⟨np, hnp⟩ : ∃ np, n.par = np := ⟨_, rfl⟩
      obtain ⟨ni, hni⟩ : ∃ ni, n.pid = ni := ⟨_, rfl⟩
      rw [hnp, hni] at hen'
      have HNP := Lib.hid (And.intro hnp hni)
      clear hen hr2 hn hok hlx hAj e1 e2 e3 e4 e5 k2 KP HR hfx hnp hni hz2 hz4
      have sk : Hid (¬ (np = par ∧ ni = pid) → NoTw s par pid (fun y => left y ∧ y ≠ x)) := Lib.hid (fun h y m hy hl hp => by
        by_cases e : y = x
        · subst e
          rw [HNX.out] at hy
          injection hy with hy
          subst hy
          rw [HNP.out.1, HNP.out.2] at hp
          exact h hp
        · exact HNO.out y m hy (fun hh => hl ⟨hh, e⟩) hp)
      have KA : Hid (Keeps [] w4 (w4.alloc (.cells #[.int .i64 v.id, .int .i64 np, .int .i64 ni, .slice Aj v.n v.c] 56))) := Lib.hid ((Keeps.refl [] w4).alloc _)
      have K5 := Lib.hid (KW.out.trans KA.out (by simp))
      have HR5 := Lib.hid (HR2.out.keep KA.out (by simp) (by simp))
      have hle5 := HR5.out.left_eq
      clear KA KW HR2
      by_cases hp1 : np = par
      · subst hp1
        by_cases hp2 : ni = pid
        · subst hp2
          have HR : Hid (NesR np ni its s s 0 5) := Lib.hid (.inr (.inr (.inl ⟨HV.out, Int.not_lt.2 hT1.out, ⟨x, n, HNX.out, HNP.out⟩, rfl, rfl, rfl⟩)))
          clear sk HNO
          go_wp2_with fail
          go_ret2
          exact ⟨s, 0, 5, rfl, HR.out, FIN.out _ K5.out⟩
        · have HP := Lib.hid (sk.out (fun h => hp2 h.2))
          clear sk HNO
          go_wp2_with fail
          go_roundw
          case rel => exact ⟨_, cnt', HR5.out, HP.out, K5.out⟩
          case measure => rw [hle5, hle]; omega
      · have HP := Lib.hid (sk.out (fun h => hp1 h.1))
        clear sk HNO
        go_wp2_with fail
        go_roundw
        case rel => exact ⟨_, cnt', HR5.out, HP.out, K5.out⟩
        case measure => rw [hle5, hle]; omega
end Go.Proofs.YtcopjjokhjealaaGreat
