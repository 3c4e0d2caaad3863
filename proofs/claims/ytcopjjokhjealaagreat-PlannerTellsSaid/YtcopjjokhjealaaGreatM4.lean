/- Texts of the elder seat, turned to this one: W17 W18 W21. -/
import Derived.Test.YtcopjjokhjealaaGreatM3
namespace Go.Proofs.YtcopjjokhjealaaGreat
open Go.RowKit

theorem own_opt {w : World} {e size n : Nat} {v : Value} {xs : List Value} (h : w.ownsRow 0 e size v n xs) : ∃ (g : Option Nat) (c : Nat), v = .slice (g.map fun g => ⟨g, 0, none⟩) n c ∧ True := by
  rcases h.2 with ⟨rfl, rfl⟩ | ⟨g, cap, cur, rfl, _⟩
  · exact ⟨none, 0, rfl, trivial⟩
  · exact ⟨some g, cap, rfl, trivial⟩
noncomputable def new4C : Code := ((Tryz.f6.body.bind (theRegion 4)).getD .skip)
set_option maxRecDepth 1000000 in
set_option maxHeartbeats 1600000 in
set_option linter.unusedSimpArgs false in
theorem new4_any (w : World) (p lm c : Nat) (A : Option Addr) (L : List Int) (K : Exit → Act → World → Prop)
    (hS : ∀ W, Keeps [] w W → W.cell? ⟨p, 0, none⟩ = some (.map (some lm)) ∧ GMap kI eL W lm 0 (fun _ => none))
    (hZ : ∀ W, Keeps [] w W → AtZ W A L)
    (u1 u2 u4 u5 u6 u7 u8 u9 u10 u11 u12 u13 u14 u15 : Value)
    (hK : ∀ (v8 v9 v10 v11 v12 v13 v14 : Value) (g : Option Nat) (ci : Nat) (W1 W : World), Keeps [] w W1 → W1.ownsRow 0 3 1 (.slice (g.map fun g => ⟨g, 0, none⟩) L.length ci) L.length (zs L) → GMap kI eL W lm 1 (updG (fun _ => none) 0 (some ⟨0, 0, 1, g, L.length, ci⟩)) → Keeps [lm] W1 W → K .normal ⟨#[.slice A L.length c, u1, u2, .pointer (some ⟨p, 0, none⟩), u4, u5, u6, u7, v8, v9, v10, v11, v12, v13, v14, u15], []⟩ W) :
    Code.wp Tryz.prog new4C K ⟨#[.slice A L.length c, u1, u2, .pointer (some ⟨p, 0, none⟩), u4, u5, u6, u7, u8, u9, u10, u11, u12, u13, u14, u15], []⟩ w := by
  have HS := Lib.hid hS
  have HZ := Lib.hid hZ
  clear hS hZ
  conv => arg 2; whnf
  try dsimp only at hK ⊢
  refine wp_region_noPanic ?_
  refine wp_region_last (S := fun W => W.cell? ⟨p, 0, none⟩ = some (.map (some lm)) ∧ GMap kI eL W lm 0 (fun _ => none)) 7 (by kernel_rfl) (HS.out _ ((Keeps.refl [] w).drew)) (fun hHeld => ?_)
  obtain ⟨w0, hw0⟩ : ∃ w0, w.drew = w0 := ⟨_, rfl⟩
  try rw [hw0] at hHeld
  rw [hw0]
  have K0 : Keeps [] w w0 := by rw [← hw0]; exact (Keeps.refl [] w).drew
  clear hw0
  refine wpG_take (nx := [1, 2, 3, 7, 5, 6, 7]) (i := 0) (oi := ⟨some 8, Op.move (Operand.tmp 3), 26, _, _, none⟩) (v := ?vq1) (by kernel_rfl) rfl (by decide) (by kernel_rfl) (by kernel_rfl) (by kernel_rfl) (fun _ _ _ h => h) (Or.inl ⟨by rfl, fun W hW => ?_⟩) (by assumption) ?_
  rotate_left
  · go_simp
    with_reducible rfl
  try simp only [Act.put, List.setIfInBounds_toArray, List.set_cons_zero, List.set_cons_succ]
  refine wpG_take (nx := [1, 2, 3, 7, 5, 6, 7]) (i := 1) (oi := ⟨some 9, Op.nilCheck (Operand.tmp 8), 0, _, _, none⟩) (v := ?vq2) (by kernel_rfl) rfl (by decide) (by kernel_rfl) (by kernel_rfl) (by kernel_rfl) (fun _ _ _ h => h) (Or.inl ⟨by rfl, fun W hW => ?_⟩) (by assumption) ?_
  rotate_left
  · go_simp
    with_reducible rfl
  try simp only [Act.put, List.setIfInBounds_toArray, List.set_cons_zero, List.set_cons_succ]
  refine wpG_take (nx := [1, 2, 3, 7, 5, 6, 7]) (i := 2) (oi := ⟨some 10, Op.fieldAddr 61 (Operand.tmp 9) 0, 0, _, _, none⟩) (v := ?vq3) (by kernel_rfl) rfl (by decide) (by kernel_rfl) (by kernel_rfl) (by kernel_rfl) (fun _ _ _ h => h) (Or.inl ⟨by rfl, fun W hW => ?_⟩) (by assumption) ?_
  rotate_left
  · go_simp
    with_reducible rfl
  try simp only [Act.put, List.setIfInBounds_toArray, List.set_cons_zero, List.set_cons_succ]
  refine wpG_take (nx := [1, 2, 3, 7, 5, 6, 7]) (i := 3) (oi := ⟨some 11, Op.load 57 (Operand.tmp 10), 57, _, _, none⟩) (v := .map (some lm)) (by kernel_rfl) rfl (by decide) (by kernel_rfl) (by kernel_rfl) (by kernel_rfl) (fun _ _ _ h => h) (Or.inl ⟨by rfl, fun W hW => ?_⟩) (by assumption) ?_
  · (have a0 := hW.1; clear hW; go_simp)
  try simp only [Act.put, List.setIfInBounds_toArray, List.set_cons_zero, List.set_cons_succ]
  refine wpG_take (nx := [1, 2, 3, 7, 5, 6, 7]) (i := 4) (oi := ⟨some 12, Op.move (Operand.tmp 0), 22, _, _, none⟩) (v := ?vq4) (by kernel_rfl) rfl (by decide) (by kernel_rfl) (by kernel_rfl) (by kernel_rfl) (fun _ _ _ h => h) (Or.inl ⟨by rfl, fun W hW => ?_⟩) (by assumption) ?_
  rotate_left
  · go_simp
    with_reducible rfl
  try simp only [Act.put, List.setIfInBounds_toArray, List.set_cons_zero, List.set_cons_succ]
  refine wpG_ready (rs := [5]) (by kernel_rfl) (by simp) ?_
  refine AllG.cons (o := ⟨some 13, Op.call { callee := Callee.value (Operand.func 24), args := #[Operand.tmp 12], argTypes := #[22] }, 22, _, _, none⟩) rfl (fun KK hKK => ?_) AllG.nil
  refine step_callW (by rfl) 24 _ _ rfl #[.slice A L.length c] (by first | (simp [Act.eval]; done) | (simp [Act.eval, Act.put]; done)) (enters_of Tryz.func24 (by kernel_rfl) rfl) (cloneI_any _ A L c (HZ.out _ K0)) ?_
  rintro e W5 ⟨v6, rfl, o7, k8, f9⟩
  refine ⟨_, rfl, ?_⟩
  have K10 : Keeps [] w W5 := K0.trans k8 (by simp)
  obtain ⟨g11, c12, hvv6, hsv6⟩ := own_opt o7
  subst hvv6
  refine hKK.out _ _ (HS.out _ K10) (fun hHeld => ?_)
  clear hKK KK
  try simp only [Act.put, List.setIfInBounds_toArray, List.set_cons_zero, List.set_cons_succ]
  refine wpG_take (nx := [1, 2, 3, 7, 5, 6, 7]) (i := 6) (oi := ⟨some 14, Op.build 56 #[(2, Operand.const (Value.int IntKind.i64 1)), (3, Operand.tmp 13)], 56, _, _, none⟩) (v := .agg #[.int .i64 0, .int .i64 0, .int .i64 1, .slice (g11.map fun g => ⟨g, 0, none⟩) L.length c12]) (by kernel_rfl) rfl (by decide) (by kernel_rfl) (by kernel_rfl) (by kernel_rfl) (fun _ _ _ h => h) (Or.inl ⟨by rfl, fun W hW => ?_⟩) (by assumption) ?_
  · go_simp
  try simp only [Act.put, List.setIfInBounds_toArray, List.set_cons_zero, List.set_cons_succ]
  refine wpG_ready (rs := [7]) (by kernel_rfl) (by simp) ?_
  refine AllG.last (o := ⟨none, Op.mapUpdate 57 (Operand.tmp 11) (Operand.const (Value.int IntKind.i64 0)) (Operand.tmp 14), 0, _, _, none⟩) rfl (fun KK hKK => ?_)
  refine step_updG (S := kI) (E := eL) rfl _ _ _ 57 rfl Tryz.underlying57 lm 0 (fun _ => none) (by first | (simp [Act.eval]; done) | (simp [Act.eval, Act.put]; done)) (HS.out _ K10).2 (by unfold maxLen; omega) 0 ⟨0, 0, 1, g11, L.length, c12⟩ (show _ = Value.int .i64 0 by first | (simp [Act.eval]; done) | (simp [Act.eval, Act.put]; done)) (show _ = Value.agg #[.int .i64 0, .int .i64 0, .int .i64 1, .slice (g11.map fun g => ⟨g, 0, none⟩) L.length c12] by first | (simp [Act.eval]; done) | (simp [Act.eval, Act.put]; done)) (kI_ok (by omega) (by omega)) ?_
  intro W13 mo14 k15
  refine hKK.out _ _ ?_
  clear hKK KK
  try simp only [Act.put, List.setIfInBounds_toArray, List.set_cons_zero, List.set_cons_succ]
  refine wpG_done (by kernel_rfl) ?_ _
  refine NoPanic.normal ?_
  exact hK _ _ _ _ _ _ _ g11 c12 _ _ K10 o7 mo14 k15
end Go.Proofs.YtcopjjokhjealaaGreat
namespace Go.Proofs.YtcopjjokhjealaaGreat
open Go.RowKit

noncomputable def newF (it : List Int) : Int → Option Ln := updG (fun _ => none) 0 (some ⟨0, 1, it⟩)
noncomputable def newS (L : List Int) : Pl := ⟨newF (if rightL L then L else []), [], fun _ => none⟩
theorem new_rep {w1 W1 W : World} {p lm cm ci : Nat} {g : Option Nat} {L : List Int} (hb : Blk w1 p 61 #[.map (some lm), .slice none 0 0, .map (some cm)]) (hc : GMap kP eC w1 cm 0 (fun _ => none)) (hlc : lm ≠ cm) (hl : GMap kI eL w1 lm 0 (fun _ => none)) (k1 : Keeps [] w1 W1)
    (ho : W1.ownsRow 0 3 1 (.slice (g.map fun g => ⟨g, 0, none⟩) L.length ci) L.length (zs L)) (hm : GMap kI eL W lm 1 (updG (fun _ => none) 0 (some ⟨0, 0, 1, g, L.length, ci⟩))) (k2 : Keeps [lm] W1 W) :
    PlAt W [p, lm, cm] p ⟨newF L, [], fun _ => none⟩ lm cm 1 0 none 0 (updG (fun _ => none) 0 (some ⟨0, 0, 1, g, L.length, ci⟩)) := by
  have hpl : p ≠ lm := fun e => hl.ne_blk hb e.symm
  have hlm := hl.keep k1 (by simp)
  refine ⟨by simp [fp, Value.ownBlock], (hb.keep k1 (by simp)).keep k2 (by simpa using hpl), hm, (hc.keep k1 (by simp)).keep k2 (by simpa using hlc.symm), hlc, World.ownsRow_nil _ _ _ _, fun x => ?_⟩
  unfold newF updG
  dsimp only
  by_cases hx : x = 0
  · subst hx
    rw [if_pos rfl, if_pos rfl]
    exact .inr ⟨_, _, rfl, rfl, rfl, rfl, rfl, rfl, own_keep ho k2 (fun y hy hyl => by
      have : y = lm := by simpa using hyl
      subst this
      exact hlm.off ho hy)⟩
  · rw [if_neg hx, if_neg hx]
    exact .inl ⟨rfl, rfl⟩
set_option maxRecDepth 100000 in
set_option maxHeartbeats 3200000 in
theorem new_any (w : World) (A : Option Addr) (L : List Int) (c : Nat) (ha : AtZ w A L) (hr : ∀ x ∈ L, -9223372036854775808 ≤ x ∧ x ≤ 9223372036854775807) :
    Calls Tryz.prog 6 #[.slice A L.length c] w fun e w' => ∃ F p lm cm f, e = .returned (.pointer (some ⟨p, 0, none⟩)) ∧ PlAt w' F p (newS L) lm cm 1 0 none 0 f ∧ Keeps [] w w' ∧ ∀ g ∈ F, w.heap.size ≤ g := by
  have HA := Lib.hid ha
  have HR := Lib.hid (right_any w A L c ha hr)
  obtain ⟨V, hV⟩ : ∃ V, rightL L = V := ⟨_, rfl⟩
  rw [hV] at HR
  have eS : Hid (newS L = ⟨newF (cond V L []), [], fun _ => none⟩) := Lib.hid (by unfold newS; rw [hV]; cases V <;> rfl)
  clear ha hr hV
  go_enter Tryz.func6, Tryz.ntmps6
  go_wp2_with fail
  refine HR.out.mono ?_
  rintro e w1 ⟨rfl, k1⟩
  have K1 := Lib.hid k1
  clear k1 HR
  cases V with
  | true =>
    go_wp2_with fail
    refine (empty_any w1).mono ?_
    rintro e w2 ⟨p, lm, cm, rfl, hb, hl, hc, hlc, k2, hp, hlm, hcm⟩
    have hs := K1.out.size
    go_upto_region 4 with fail
    refine new4_any w2 p lm c A L _ (fun W k => ⟨(hb.keep k (by simp)).cell 0, hl.keep k (by simp)⟩) (fun W k => HA.out.keep ((K1.out.trans k2 (by simp)).trans k (by simp))) _ _ _ _ _ _ _ _ _ _ _ _ _ _ ?_
    intro v8 v9 v10 v11 v12 v13 v14 g ci W1 W kw1 ho hm kw2
    have FIN := Lib.hid (new_rep hb hc hlc hl kw1 ho hm kw2)
    have KF : Hid (Keeps [] w W) := Lib.hid (((K1.out.trans k2 (by simp)).trans kw1 (by simp)).trans kw2 (fun y hy => .inr (by have h := List.mem_singleton.1 hy; omega)))
    have HG : Hid (∀ y ∈ [p, lm, cm], w.heap.size ≤ y) := Lib.hid (fun y hy => by simp at hy; omega)
    clear hb hl hc k2 ho hm kw1 kw2 hp hlm hcm hs hlc
    go_wp2_with fail
    go_ret
    exact ⟨_, p, lm, cm, _, rfl, by rw [eS.out]; exact FIN.out, KF.out, HG.out⟩
  | false =>
    go_wp2_with fail
    refine (empty_any w1).mono ?_
    rintro e w2 ⟨p, lm, cm, rfl, hb, hl, hc, hlc, k2, hp, hlm, hcm⟩
    have hs := K1.out.size
    go_upto_region 4 with fail
    refine new4_any w2 p lm 0 none [] _ (fun W k => ⟨(hb.keep k (by simp)).cell 0, hl.keep k (by simp)⟩) (fun W k => ⟨fun h => absurd h (by simp), by simp⟩) _ _ _ _ _ _ _ _ _ _ _ _ _ _ ?_
    intro v8 v9 v10 v11 v12 v13 v14 g ci W1 W kw1 ho hm kw2
    have FIN := Lib.hid (new_rep hb hc hlc hl kw1 ho hm kw2)
    have KF : Hid (Keeps [] w W) := Lib.hid (((K1.out.trans k2 (by simp)).trans kw1 (by simp)).trans kw2 (fun y hy => .inr (by have h := List.mem_singleton.1 hy; omega)))
    have HG : Hid (∀ y ∈ [p, lm, cm], w.heap.size ≤ y) := Lib.hid (fun y hy => by simp at hy; omega)
    clear hb hl hc k2 ho hm kw1 kw2 hp hlm hcm hs hlc
    go_wp2_with fail
    go_ret
    exact ⟨_, p, lm, cm, _, rfl, by rw [eS.out]; exact FIN.out, KF.out, HG.out⟩
end Go.Proofs.YtcopjjokhjealaaGreat
namespace Go.Proofs.YtcopjjokhjealaaGreat
open Go.RowKit

/-- The planner at p, its size in hand. -/
def PR (w : World) (F : List Nat) (p : Nat) (s : Pl) (Φ : Nat) : Prop :=
  ∃ lm cm nl nc A c f, PlAt w F p s lm cm nl nc A c f ∧ nl ≤ Φ ∧ nc + s.li.length ≤ Φ
theorem PR.keep {w w' : World} {F G : List Nat} {p : Nat} {s : Pl} {Φ : Nat} (h : PR w F p s Φ) (hk : Keeps G w w') (hd : ∀ g ∈ F, g ∉ G) (hG : ∀ g ∈ G, ¬ IntRow w g) : PR w' F p s Φ := by
  obtain ⟨lm, cm, nl, nc, A, c, f, h, h1, h2⟩ := h
  exact ⟨lm, cm, nl, nc, A, c, f, h.keep hk hd hG, h1, h2⟩
theorem PR.keep0 {w w' : World} {F : List Nat} {p : Nat} {s : Pl} {Φ : Nat} (h : PR w F p s Φ) (hk : Keeps [] w w') : PR w' F p s Φ :=
  h.keep hk (fun _ _ => by simp) (fun _ hg => by cases hg)
theorem PR.lt {w : World} {F : List Nat} {p : Nat} {s : Pl} {Φ : Nat} (h : PR w F p s Φ) : ∀ g ∈ F, g < w.heap.size := by
  obtain ⟨lm, cm, nl, nc, A, c, f, h, -⟩ := h
  exact h.lt
theorem PR.noInt {w : World} {F : List Nat} {p : Nat} {s : Pl} {Φ : Nat} (h : PR w F p s Φ) : ∀ g ∈ F, ¬ IntRow w g := by
  obtain ⟨lm, cm, nl, nc, A, c, f, h, -⟩ := h
  exact h.noInt
theorem PR.mono {w : World} {F : List Nat} {p : Nat} {s : Pl} {Φ Ψ : Nat} (h : PR w F p s Φ) (hΦ : Φ ≤ Ψ) : PR w F p s Ψ := by
  obtain ⟨lm, cm, nl, nc, A, c, f, h, h1, h2⟩ := h
  exact ⟨lm, cm, nl, nc, A, c, f, h, by omega, by omega⟩
end Go.Proofs.YtcopjjokhjealaaGreat
