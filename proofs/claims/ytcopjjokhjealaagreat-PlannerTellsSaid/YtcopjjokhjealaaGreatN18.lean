/- The reference: the counts' keys; alike. -/
import Derived.Test.YtcopjjokhjealaaGreatN17
import Derived.Test.YtcopjjokhjealaaGreatMF
import Derived.Test.YtcopjjokhjealaaGreatHeld
namespace Go.Proofs.YtcopjjokhjealaaGreat
open Go.RowKit

/-- The counts are those of items in range. -/
def KO (s : Pl) : Prop := ∀ k c, s.ct k = some c → kP.ok k
theorem KO.rm {j : Job} {s s' : Pl} {o : List Int} (h : KO s) (hr : Rm j s s' o) : KO s' := fun k c hk => h k c (hr.ct k c hk)
theorem KO.cnt {s : Pl} (h : KO s) {l i : Int} (ad : Ct) (hk : kP.ok (l, i)) : KO (cntS s l i ad) := by
  intro k c hc
  by_cases e : k = (l, i)
  · rw [e]; exact hk
  · have hc : updG s.ct (l, i) _ k = some c := hc
    rw [updG_ne _ _ e] at hc
    exact h k c hc
theorem KO.at_ {X : Rn → Prop} {s : Pl} (h : KO s) (c : Core X s) {k : Nat} (hk : k < s.li.length) : kP.ok (s.li[k].l, s.li[k].i) := by
  obtain ⟨ct, hct⟩ := Option.isSome_iff_exists.1 (c.hm _ (List.getElem_mem hk)).2
  exact h _ ct hct
theorem AgR.ko {l i : Int} {ad : Ct} {s s' : Pl} {o : List Int} {e : Int} (h : AgR l i ad s s' o e) (hv : Inv NoR s) (hk : KO s) : KO s' := by
  rcases h with ⟨-, rfl, -, -⟩ | ⟨k, h1, h2, -⟩
  · exact hk
  · obtain ⟨hk', rfl, rfl⟩ := fnd_spec h1
    exact (hk.cnt ad (hk.at_ hv.c hk')).rm h2
theorem GoR.ko {l : Int} {s s' : Pl} {o : List Int} (h : GoR l s s' o) (hk : KO s) : KO s' := by
  rcases h with ⟨-, rfl, -⟩ | ⟨h0, h1, h2⟩
  · exact hk
  · exact hk.rm h2
theorem St.ko {l : Int} {it : List Int} {s s' : Pl} {o : List Int} (h : St l it s s' o) (c : Core (StX l it) s) (hk : KO s) : KO s' := by
  induction h with
  | done h => exact hk
  | @step s s1 s2 k o1 o2 h hkl h1 h2 ih =>
    obtain ⟨hk', hq, -⟩ := ixF_spec h
    have hl : s.li[k].l = l := by unfold isStray at hq; simp at hq; exact hq.1
    have h3 := hk.at_ c hkl
    rw [hl] at h3
    exact ih ((c.cnt _ _ _).rm h1 (fun x hx => by cases hx)) ((hk.cnt strC h3).rm h1)
theorem ComR.ko {l i : Int} {its : List Int} {s s' : Pl} {o : List Int} {e : Int} (h : ComR l i its s s' o e) (hv : Inv NoR s) (hk : KO s) : KO s' := by
  rcases h with ⟨-, rfl, -, -⟩ | ⟨k, r, n, y, h1, h2, h3, h4, h5⟩
  · exact hk
  rcases h5 with ⟨-, rfl, -⟩ | ⟨-, -, rfl, -⟩ | ⟨-, -, -, rfl, -⟩ | ⟨-, -, -, -, rfl, -⟩ | ⟨hy, hd, hw, hr, hst, -⟩
  · exact hk
  · exact hk
  · exact hk
  · exact hk
  obtain ⟨hk', hl, hi⟩ := fnd_spec h1
  have h6 := hk.at_ hv.c hk'
  rw [hl, hi] at h6
  have c2 : Core (StX l its) (setIt (cntS (takeOut s k) l i comC) l n its) := ((hv.c.take k).cnt _ _ _).setIt h3 hr (fun q hq hql => by
    by_cases hx : q.i ∈ its
    · exact .inr hx
    · refine .inl ?_
      unfold StX isStray
      simp [hql, hx])
  exact hst.ko c2 (KO.cnt (s := takeOut s k) hk comC h6)
theorem KO.begS {s : Pl} {l i t : Int} (hv : Inv NoR s) (hk : KO s) : KO (begS s l i t) := by
  unfold Go.Proofs.YtcopjjokhjealaaGreat.begS
  by_cases h : begE s l i t = 0
  · rw [if_pos h]
    obtain ⟨n, hn, ht, hi, -⟩ := beg_spec h
    have a := hv.c.id _ _ hn
    have b := (rightL_ok (hv.c.it _ _ hn)).1 _ hi
    exact KO.cnt (s := ⟨s.ln, s.li ++ [⟨l, i, t, false⟩], s.ct⟩) hk runC (kP_ok (by dsimp only; omega) (by dsimp only; omega) (by dsimp only; omega) (by dsimp only; omega))
  · rw [if_neg h]; exact hk
theorem DoR.ko {x : Op} {s s' : Pl} {o : List Int} {n e : Int} (h : DoR x s s' o n e) (hv : Inv NoR s) (hk : KO s) : KO s' := by
  cases h with
  | fin h =>
    unfold finS
    by_cases hq : fndI s.li x.l x.i < 0
    · rw [if_pos hq]; exact hk
    · rw [if_neg hq]; exact hk
  | com h hr => exact hr.ko hv hk
  | con h hr => exact hr.ko hv hk
  | drp h hr => exact hr.ko hv hk
  | gon h hr => exact hr.ko hk
  | nes h hr => rcases hr with ⟨-, rfl, -⟩ | ⟨-, -, rfl, -⟩ | ⟨-, -, -, rfl, -⟩ | ⟨-, -, -, -, rfl, -⟩ | ⟨-, -, -, -, -, rfl, -⟩ <;> exact hk
  | ahn h ha => exact hk
  | ahb h ha => exact hk.begS hv
  | beg h => exact hk.begS hv
theorem KO.newS (L : List Int) : KO (newS L) := fun k c hk => by cases hk
/-- Two lists of counts, both ascending, with the same members. -/
theorem ltC_ext : ∀ {a b : List Ct}, a.Pairwise ltC → b.Pairwise ltC → (∀ x, x ∈ a ↔ x ∈ b) → a = b
  | [], [], _, _, _ => rfl
  | [], y :: b, _, _, h => absurd ((h y).2 (by simp)) (by simp)
  | x :: a, [], _, _, h => absurd ((h x).1 (by simp)) (by simp)
  | x :: a, y :: b, ha, hb, h => by
    obtain ⟨a1, a2⟩ := List.pairwise_cons.1 ha
    obtain ⟨b1, b2⟩ := List.pairwise_cons.1 hb
    have irr : ∀ z : Ct, ¬ ltC z z := fun z h => by unfold ltC at h; omega
    have asym : ∀ z u : Ct, ltC z u → ¬ ltC u z := fun z u h1 h2 => by unfold ltC at h1 h2; omega
    have hxy : x = y := by
      rcases List.mem_cons.1 ((h x).1 (by simp)) with e | e
      · exact e
      · rcases List.mem_cons.1 ((h y).2 (by simp)) with e' | e'
        · exact e'.symm
        · exact absurd (b1 x e) (asym _ _ (a1 y e'))
    subst hxy
    rw [ltC_ext a2 b2 (fun z => ?_)]
    constructor
    · intro hz
      rcases List.mem_cons.1 ((h z).1 (by simp [hz])) with e | e
      · subst e; exact absurd (a1 _ hz) (irr _)
      · exact e
    · intro hz
      rcases List.mem_cons.1 ((h z).2 (by simp [hz])) with e | e
      · subst e; exact absurd (b1 _ hz) (irr _)
      · exact e
theorem counts_eq {g : Int × Int → Option Ct} {cs C : List Ct} (h1 : AllK g cs) (h2 : cs.Pairwise ltC) (h3 : CsOK g C) (hk : ∀ k c, g k = some c → kP.ok k) : cs = C := by
  refine ltC_ext h2 h3.as3 (fun x => ?_)
  rw [h1.2]
  exact ⟨fun h => (h3.cc _ _ h.2).1, fun h => ⟨hk _ _ (h3.cs x h), h3.cs x h⟩⟩
theorem lines_lk {w : World} {s : Pl} {A : Option Addr} {vs LV : List LnV} (h1 : LnsAt w s A vs) (h2 : LsOK w s.ln LV) (hi : ∀ x n, s.ln x = some n → n.it.length ≤ 1000) :
    vs.length = LV.length ∧ ∀ k (h1 : k < vs.length) (h2 : k < LV.length), Lk w vs[k] LV[k] := by
  have e : vs.map (·.id) = LV.map (·.id) := asc_ext h1.asc h2.as1 (fun x => by
    rw [h1.mem]
    exact ⟨h2.lc x, fun hx => by obtain ⟨v, hv, rfl⟩ := List.mem_map.1 hx; obtain ⟨n, hn, -⟩ := h2.ls v hv; rw [hn]; rfl⟩)
  refine ⟨by have := congrArg List.length e; simpa using this, fun k g1 g2 => ?_⟩
  have ek : vs[k].id = LV[k].id := by
    have := congrArg (fun L : List Int => L[k]?) e
    simp only [List.getElem?_map, List.getElem?_eq_getElem g1, List.getElem?_eq_getElem g2, Option.map_some, Option.some.injEq] at this
    exact this
  obtain ⟨n, a1, a2, a3, a4, a5, a6⟩ := h1.va _ (List.getElem_mem g1)
  obtain ⟨n', b1, b2, b3, b4, b5, b6⟩ := h2.ls _ (List.getElem_mem g2)
  rw [← ek, a1] at b1
  injection b1 with b1
  subst b1
  have hl := hi _ _ a1
  exact ⟨ek, by rw [a3, b3], by rw [a4, b4], n.it, a5, b5, AtZ.of_own a6 (by omega), AtZ.of_own b6 (by omega)⟩
noncomputable def alkC : Code := ((Tryz.f15.body.bind (theRegion 1)).getD .skip)
set_option maxRecDepth 1000000 in
set_option maxHeartbeats 1600000 in
set_option linter.unusedSimpArgs false in
theorem alk_any (w : World) (p q c1 c2 c3 : Nat) (A1 A2 A3 : Option Addr) (s : Pl) (LV : List LnV) (C : List Ct) (K : Exit → Act → World → Prop)
    (hS : ∀ W, Keeps [] w W → W.cell? ⟨q, 0, none⟩ = some (.slice A1 LV.length c1) ∧ W.cell? ⟨q, 1, none⟩ = some (.slice A2 s.li.length c2) ∧ W.cell? ⟨q, 2, none⟩ = some (.slice A3 C.length c3))
    (hCL : ∀ W, Keeps [] w W → Calls Tryz.prog 41 #[.pointer (some ⟨p, 0, none⟩)] W fun e w' => ∃ A' c' vs, e = .returned (.slice A' (vs : List LnV).length c') ∧ LnsAt w' s A' vs ∧ Keeps [] W w')
    (hSL : ∀ W, Keeps [] w W → ∀ A' c' vs, LnsAt W s A' vs → Calls Tryz.prog 40 #[.slice A' (vs : List LnV).length c', .slice A1 LV.length c1] W fun e w' => e = .returned (.bool true) ∧ Keeps [] W w')
    (hCR : ∀ W, Keeps [] w W → Calls Tryz.prog 43 #[.pointer (some ⟨p, 0, none⟩)] W fun e w' => ∃ A' c', e = .returned (.slice A' s.li.length c') ∧ AtR w' A' s.li ∧ Keeps [] W w')
    (hSR : ∀ W, Keeps [] w W → ∀ A' c', AtR W A' s.li → Calls Tryz.prog 42 #[.slice A' s.li.length c', .slice A2 s.li.length c2] W fun e w' => e = .returned (.bool true) ∧ Keeps [] W w')
    (hCC : ∀ W, Keeps [] w W → Calls Tryz.prog 45 #[.pointer (some ⟨p, 0, none⟩)] W fun e w' => ∃ A' c', e = .returned (.slice A' C.length c') ∧ AtC w' A' C ∧ Keeps [] W w')
    (hSC : ∀ W, Keeps [] w W → ∀ A' c', AtC W A' C → Calls Tryz.prog 44 #[.slice A' C.length c', .slice A3 C.length c3] W fun e w' => e = .returned (.bool true) ∧ Keeps [] W w')
    (u2 u3 u4 u5 u6 u7 u8 u9 u10 u11 u12 u13 u14 u15 u16 u17 u18 u19 u20 u21 u22 u23 u24 u25 u26 u27 u28 u29 : Value)
    (hK : ∀ (v5 v6 v7 v8 v9 v10 v11 v12 v13 v14 v15 v16 v17 v18 v19 v20 v21 v22 v23 v24 v25 v26 v27 v28 v29 : Value) (W : World), Keeps [] w W → K .normal ⟨#[.pointer (some ⟨p, 0, none⟩), .pointer (some ⟨q, 0, none⟩), u2, u3, .bool true, v5, v6, v7, v8, v9, v10, v11, v12, v13, v14, v15, v16, v17, v18, v19, v20, v21, v22, v23, v24, v25, v26, v27, v28, v29], []⟩ W) :
    Code.wp Tryz.prog alkC K ⟨#[.pointer (some ⟨p, 0, none⟩), .pointer (some ⟨q, 0, none⟩), u2, u3, u4, u5, u6, u7, u8, u9, u10, u11, u12, u13, u14, u15, u16, u17, u18, u19, u20, u21, u22, u23, u24, u25, u26, u27, u28, u29], []⟩ w := by
  have HS := Lib.hid hS
  have CL := Lib.hid hCL
  have SL := Lib.hid hSL
  have CR := Lib.hid hCR
  have SR := Lib.hid hSR
  have CC := Lib.hid hCC
  have SC := Lib.hid hSC
  clear hS hCL hSL hCR hSR hCC hSC
  conv => arg 2; whnf
  try dsimp only at hK ⊢
  refine wp_region_noPanic ?_
  refine wp_region_held_drew (S := fun W => W.cell? ⟨q, 0, none⟩ = some (.slice A1 LV.length c1) ∧ W.cell? ⟨q, 1, none⟩ = some (.slice A2 s.li.length c2) ∧ W.cell? ⟨q, 2, none⟩ = some (.slice A3 C.length c3)) (by kernel_rfl) (HS.out _ ((Keeps.refl [] w).drew)) (fun hHeld => ?_)
  obtain ⟨w0, hw0⟩ : ∃ w0, w.drew = w0 := ⟨_, rfl⟩
  try rw [hw0] at hHeld
  rw [hw0]
  have K0 : Keeps [] w w0 := by rw [← hw0]; exact (Keeps.refl [] w).drew
  clear hw0
  refine wpAnyH_take (i := 0) (oi := ⟨some 5, Op.move (Operand.tmp 0), 26, _, _, none⟩) (v := ?vq1) rfl (by kernel_rfl) (by kernel_rfl) (by kernel_rfl) (fun _ _ _ h => h) (Or.inl ⟨by rfl, fun W hW => ?_⟩) (by assumption) ?_
  rotate_left
  · go_simp
    with_reducible rfl
  try simp only [Act.put, List.setIfInBounds_toArray, List.set_cons_zero, List.set_cons_succ]
  refine wpAnyH_take (i := 2) (oi := ⟨some 7, Op.move (Operand.tmp 1), 28, _, _, none⟩) (v := ?vq2) rfl (by kernel_rfl) (by kernel_rfl) (by kernel_rfl) (fun _ _ _ h => h) (Or.inl ⟨by rfl, fun W hW => ?_⟩) (by assumption) ?_
  rotate_left
  · go_simp
    with_reducible rfl
  try simp only [Act.put, List.setIfInBounds_toArray, List.set_cons_zero, List.set_cons_succ]
  refine wpAnyH_take (i := 3) (oi := ⟨some 8, Op.nilCheck (Operand.tmp 7), 0, _, _, none⟩) (v := ?vq3) rfl (by kernel_rfl) (by kernel_rfl) (by kernel_rfl) (fun _ _ _ h => h) (Or.inl ⟨by rfl, fun W hW => ?_⟩) (by assumption) ?_
  rotate_left
  · go_simp
    with_reducible rfl
  try simp only [Act.put, List.setIfInBounds_toArray, List.set_cons_zero, List.set_cons_succ]
  refine wpAnyH_take (i := 4) (oi := ⟨some 9, Op.fieldAddr 65 (Operand.tmp 8) 0, 0, _, _, none⟩) (v := ?vq4) rfl (by kernel_rfl) (by kernel_rfl) (by kernel_rfl) (fun _ _ _ h => h) (Or.inl ⟨by rfl, fun W hW => ?_⟩) (by assumption) ?_
  rotate_left
  · go_simp
    with_reducible rfl
  try simp only [Act.put, List.setIfInBounds_toArray, List.set_cons_zero, List.set_cons_succ]
  refine wpAnyH_take (i := 5) (oi := ⟨some 10, Op.load 62 (Operand.tmp 9), 62, _, _, none⟩) (v := .slice A1 LV.length c1) rfl (by kernel_rfl) (by kernel_rfl) (by kernel_rfl) (fun _ _ _ h => h) (Or.inl ⟨by rfl, fun W hW => ?_⟩) (by assumption) ?_
  · (have a0 := hW.1; clear hW; go_simp)
  try simp only [Act.put, List.setIfInBounds_toArray, List.set_cons_zero, List.set_cons_succ]
  refine wpAnyH_ready (rs := [1]) (by kernel_rfl) (by simp) ?_
  refine AllReadyH.cons (o := ⟨some 6, Op.call { callee := Callee.value (Operand.func 41), args := #[Operand.tmp 5], argTypes := #[26] }, 62, _, _, none⟩) rfl (fun KK hKK => ?_) AllReadyH.nil
  refine step_callW (by rfl) 41 _ _ rfl #[.pointer (some ⟨p, 0, none⟩)] (by first | (simp [Act.eval]; done) | (simp [Act.eval, Act.put]; done)) (enters_of Tryz.func41 (by kernel_rfl) rfl) (CL.out _ K0) ?_
  rintro e W5 ⟨Av, cv, vs, rfl, HLn, k6⟩
  refine ⟨_, rfl, ?_⟩
  have K7 : Keeps [] w W5 := K0.trans k6 (by simp)
  refine hKK.out _ _ (HS.out _ K7) (fun hHeld => ?_)
  clear hKK KK
  try simp only [Act.put, List.setIfInBounds_toArray, List.set_cons_zero, List.set_cons_succ]
  refine wpAnyH_ready (rs := [6]) (by kernel_rfl) (by simp) ?_
  refine AllReadyH.cons (o := ⟨some 11, Op.call { callee := Callee.value (Operand.func 40), args := #[Operand.tmp 6, Operand.tmp 10], argTypes := #[62, 62] }, 4, _, _, none⟩) rfl (fun KK hKK => ?_) AllReadyH.nil
  refine step_callW (by rfl) 40 _ _ rfl #[.slice Av vs.length cv, .slice A1 LV.length c1] (by first | (simp [Act.eval]; done) | (simp [Act.eval, Act.put]; done)) (enters_of Tryz.func40 (by kernel_rfl) rfl) (SL.out _ K7 Av cv vs HLn) ?_
  rintro e W8 ⟨rfl, k9⟩
  refine ⟨_, rfl, ?_⟩
  have K10 : Keeps [] w W8 := K7.trans k9 (by simp)
  refine hKK.out _ _ (HS.out _ K10) (fun hHeld => ?_)
  clear hKK KK
  try simp only [Act.put, List.setIfInBounds_toArray, List.set_cons_zero, List.set_cons_succ]
  refine wpAnyH_take (i := 7) (oi := ⟨some 12, Op.move (Operand.tmp 11), 4, _, _, none⟩) (v := ?vq11) rfl (by kernel_rfl) (by kernel_rfl) (by kernel_rfl) (fun _ _ _ h => h) (Or.inl ⟨by rfl, fun W hW => ?_⟩) (by assumption) ?_
  rotate_left
  · go_simp
    with_reducible rfl
  try simp only [Act.put, List.setIfInBounds_toArray, List.set_cons_zero, List.set_cons_succ]
  refine wpAnyH_take (i := 8) (oi := ⟨some 13, Op.move (Operand.tmp 0), 26, _, _, some (7, true)⟩) (v := ?vq12) rfl (by kernel_rfl) (by kernel_rfl) (by kernel_rfl) (fun _ _ _ h => h) (Or.inl ⟨by rfl, fun W hW => ?_⟩) (by assumption) ?_
  rotate_left
  · go_simp
    with_reducible rfl
  try simp only [Act.put, List.setIfInBounds_toArray, List.set_cons_zero, List.set_cons_succ]
  refine wpAnyH_take (i := 10) (oi := ⟨some 15, Op.move (Operand.tmp 1), 28, _, _, some (7, true)⟩) (v := ?vq13) rfl (by kernel_rfl) (by kernel_rfl) (by kernel_rfl) (fun _ _ _ h => h) (Or.inl ⟨by rfl, fun W hW => ?_⟩) (by assumption) ?_
  rotate_left
  · go_simp
    with_reducible rfl
  try simp only [Act.put, List.setIfInBounds_toArray, List.set_cons_zero, List.set_cons_succ]
  refine wpAnyH_take (i := 11) (oi := ⟨some 16, Op.nilCheck (Operand.tmp 15), 0, _, _, some (7, true)⟩) (v := ?vq14) rfl (by kernel_rfl) (by kernel_rfl) (by kernel_rfl) (fun _ _ _ h => h) (Or.inl ⟨by rfl, fun W hW => ?_⟩) (by assumption) ?_
  rotate_left
  · go_simp
    with_reducible rfl
  try simp only [Act.put, List.setIfInBounds_toArray, List.set_cons_zero, List.set_cons_succ]
  refine wpAnyH_take (i := 12) (oi := ⟨some 17, Op.fieldAddr 65 (Operand.tmp 16) 1, 0, _, _, some (7, true)⟩) (v := ?vq15) rfl (by kernel_rfl) (by kernel_rfl) (by kernel_rfl) (fun _ _ _ h => h) (Or.inl ⟨by rfl, fun W hW => ?_⟩) (by assumption) ?_
  rotate_left
  · go_simp
    with_reducible rfl
  try simp only [Act.put, List.setIfInBounds_toArray, List.set_cons_zero, List.set_cons_succ]
  refine wpAnyH_take (i := 13) (oi := ⟨some 18, Op.load 58 (Operand.tmp 17), 58, _, _, some (7, true)⟩) (v := .slice A2 s.li.length c2) rfl (by kernel_rfl) (by kernel_rfl) (by kernel_rfl) (fun _ _ _ h => h) (Or.inl ⟨by rfl, fun W hW => ?_⟩) (by assumption) ?_
  · (have a0 := hW.2.1; clear hW; go_simp)
  try simp only [Act.put, List.setIfInBounds_toArray, List.set_cons_zero, List.set_cons_succ]
  refine wpAnyH_ready (rs := [9]) (by kernel_rfl) (by simp) ?_
  refine AllReadyH.cons (o := ⟨some 14, Op.call { callee := Callee.value (Operand.func 43), args := #[Operand.tmp 13], argTypes := #[26] }, 58, _, _, some (7, true)⟩) rfl (fun KK hKK => ?_) AllReadyH.nil
  refine step_callW (by rfl) 43 _ _ rfl #[.pointer (some ⟨p, 0, none⟩)] (by first | (simp [Act.eval]; done) | (simp [Act.eval, Act.put]; done)) (enters_of Tryz.func43 (by kernel_rfl) rfl) (CR.out _ K10) ?_
  rintro e W16 ⟨Ar, cr, rfl, HRn, k17⟩
  refine ⟨_, rfl, ?_⟩
  have K18 : Keeps [] w W16 := K10.trans k17 (by simp)
  refine hKK.out _ _ (HS.out _ K18) (fun hHeld => ?_)
  clear hKK KK
  try simp only [Act.put, List.setIfInBounds_toArray, List.set_cons_zero, List.set_cons_succ]
  refine wpAnyH_ready (rs := [14]) (by kernel_rfl) (by simp) ?_
  refine AllReadyH.cons (o := ⟨some 19, Op.call { callee := Callee.value (Operand.func 42), args := #[Operand.tmp 14, Operand.tmp 18], argTypes := #[58, 58] }, 4, _, _, some (7, true)⟩) rfl (fun KK hKK => ?_) AllReadyH.nil
  refine step_callW (by rfl) 42 _ _ rfl #[.slice Ar s.li.length cr, .slice A2 s.li.length c2] (by first | (simp [Act.eval]; done) | (simp [Act.eval, Act.put]; done)) (enters_of Tryz.func42 (by kernel_rfl) rfl) (SR.out _ K18 Ar cr HRn) ?_
  rintro e W19 ⟨rfl, k20⟩
  refine ⟨_, rfl, ?_⟩
  have K21 : Keeps [] w W19 := K18.trans k20 (by simp)
  refine hKK.out _ _ (HS.out _ K21) (fun hHeld => ?_)
  clear hKK KK
  try simp only [Act.put, List.setIfInBounds_toArray, List.set_cons_zero, List.set_cons_succ]
  refine wpAnyH_take (i := 15) (oi := ⟨some 20, Op.pick (Operand.tmp 12) (Operand.tmp 19) (Operand.const (Value.bool false)), 4, _, _, none⟩) (v := .bool true) rfl (by kernel_rfl) (by kernel_rfl) (by kernel_rfl) (fun _ _ _ h => h) (Or.inl ⟨by rfl, fun W hW => ?_⟩) (by assumption) ?_
  · go_simp
  try simp only [Act.put, List.setIfInBounds_toArray, List.set_cons_zero, List.set_cons_succ]
  refine wpAnyH_take (i := 16) (oi := ⟨some 21, Op.move (Operand.tmp 20), 4, _, _, none⟩) (v := ?vq22) rfl (by kernel_rfl) (by kernel_rfl) (by kernel_rfl) (fun _ _ _ h => h) (Or.inl ⟨by rfl, fun W hW => ?_⟩) (by assumption) ?_
  rotate_left
  · go_simp
    with_reducible rfl
  try simp only [Act.put, List.setIfInBounds_toArray, List.set_cons_zero, List.set_cons_succ]
  refine wpAnyH_take (i := 17) (oi := ⟨some 22, Op.move (Operand.tmp 0), 26, _, _, some (16, true)⟩) (v := ?vq23) rfl (by kernel_rfl) (by kernel_rfl) (by kernel_rfl) (fun _ _ _ h => h) (Or.inl ⟨by rfl, fun W hW => ?_⟩) (by assumption) ?_
  rotate_left
  · go_simp
    with_reducible rfl
  try simp only [Act.put, List.setIfInBounds_toArray, List.set_cons_zero, List.set_cons_succ]
  refine wpAnyH_take (i := 19) (oi := ⟨some 24, Op.move (Operand.tmp 1), 28, _, _, some (16, true)⟩) (v := ?vq24) rfl (by kernel_rfl) (by kernel_rfl) (by kernel_rfl) (fun _ _ _ h => h) (Or.inl ⟨by rfl, fun W hW => ?_⟩) (by assumption) ?_
  rotate_left
  · go_simp
    with_reducible rfl
  try simp only [Act.put, List.setIfInBounds_toArray, List.set_cons_zero, List.set_cons_succ]
  refine wpAnyH_take (i := 20) (oi := ⟨some 25, Op.nilCheck (Operand.tmp 24), 0, _, _, some (16, true)⟩) (v := ?vq25) rfl (by kernel_rfl) (by kernel_rfl) (by kernel_rfl) (fun _ _ _ h => h) (Or.inl ⟨by rfl, fun W hW => ?_⟩) (by assumption) ?_
  rotate_left
  · go_simp
    with_reducible rfl
  try simp only [Act.put, List.setIfInBounds_toArray, List.set_cons_zero, List.set_cons_succ]
  refine wpAnyH_take (i := 21) (oi := ⟨some 26, Op.fieldAddr 65 (Operand.tmp 25) 2, 0, _, _, some (16, true)⟩) (v := ?vq26) rfl (by kernel_rfl) (by kernel_rfl) (by kernel_rfl) (fun _ _ _ h => h) (Or.inl ⟨by rfl, fun W hW => ?_⟩) (by assumption) ?_
  rotate_left
  · go_simp
    with_reducible rfl
  try simp only [Act.put, List.setIfInBounds_toArray, List.set_cons_zero, List.set_cons_succ]
  refine wpAnyH_take (i := 22) (oi := ⟨some 27, Op.load 63 (Operand.tmp 26), 63, _, _, some (16, true)⟩) (v := .slice A3 C.length c3) rfl (by kernel_rfl) (by kernel_rfl) (by kernel_rfl) (fun _ _ _ h => h) (Or.inl ⟨by rfl, fun W hW => ?_⟩) (by assumption) ?_
  · (have a0 := hW.2.2; clear hW; go_simp)
  try simp only [Act.put, List.setIfInBounds_toArray, List.set_cons_zero, List.set_cons_succ]
  refine wpAnyH_ready (rs := [18]) (by kernel_rfl) (by simp) ?_
  refine AllReadyH.cons (o := ⟨some 23, Op.call { callee := Callee.value (Operand.func 45), args := #[Operand.tmp 22], argTypes := #[26] }, 63, _, _, some (16, true)⟩) rfl (fun KK hKK => ?_) AllReadyH.nil
  refine step_callW (by rfl) 45 _ _ rfl #[.pointer (some ⟨p, 0, none⟩)] (by first | (simp [Act.eval]; done) | (simp [Act.eval, Act.put]; done)) (enters_of Tryz.func45 (by kernel_rfl) rfl) (CC.out _ K21) ?_
  rintro e W27 ⟨Ac, cc, rfl, HCn, k28⟩
  refine ⟨_, rfl, ?_⟩
  have K29 : Keeps [] w W27 := K21.trans k28 (by simp)
  refine hKK.out _ _ (HS.out _ K29) (fun hHeld => ?_)
  clear hKK KK
  try simp only [Act.put, List.setIfInBounds_toArray, List.set_cons_zero, List.set_cons_succ]
  refine wpAnyH_ready (rs := [23]) (by kernel_rfl) (by simp) ?_
  refine AllReadyH.cons (o := ⟨some 28, Op.call { callee := Callee.value (Operand.func 44), args := #[Operand.tmp 23, Operand.tmp 27], argTypes := #[63, 63] }, 4, _, _, some (16, true)⟩) rfl (fun KK hKK => ?_) AllReadyH.nil
  refine step_callW (by rfl) 44 _ _ rfl #[.slice Ac C.length cc, .slice A3 C.length c3] (by first | (simp [Act.eval]; done) | (simp [Act.eval, Act.put]; done)) (enters_of Tryz.func44 (by kernel_rfl) rfl) (SC.out _ K29 Ac cc HCn) ?_
  rintro e W30 ⟨rfl, k31⟩
  refine ⟨_, rfl, ?_⟩
  have K32 : Keeps [] w W30 := K29.trans k31 (by simp)
  refine hKK.out _ _ (HS.out _ K32) (fun hHeld => ?_)
  clear hKK KK
  try simp only [Act.put, List.setIfInBounds_toArray, List.set_cons_zero, List.set_cons_succ]
  refine wpAnyH_take (i := 24) (oi := ⟨some 29, Op.pick (Operand.tmp 21) (Operand.tmp 28) (Operand.const (Value.bool false)), 4, _, _, none⟩) (v := .bool true) rfl (by kernel_rfl) (by kernel_rfl) (by kernel_rfl) (fun _ _ _ h => h) (Or.inl ⟨by rfl, fun W hW => ?_⟩) (by assumption) ?_
  · go_simp
  try simp only [Act.put, List.setIfInBounds_toArray, List.set_cons_zero, List.set_cons_succ]
  refine wpAnyH_take (i := 25) (oi := ⟨some 4, Op.assign (Operand.tmp 29), 4, _, _, none⟩) (v := ?vq33) rfl (by kernel_rfl) (by kernel_rfl) (by kernel_rfl) (fun _ _ _ h => h) (Or.inl ⟨by rfl, fun W hW => ?_⟩) (by assumption) ?_
  rotate_left
  · go_simp
    with_reducible rfl
  try simp only [Act.put, List.setIfInBounds_toArray, List.set_cons_zero, List.set_cons_succ]
  refine wpAnyH_done (by kernel_rfl) ?_ _
  refine NoPanic.normal ?_
  exact hK _ _ _ _ _ _ _ _ _ _ _ _ _ _ _ _ _ _ _ _ _ _ _ _ _ _ K32
set_option maxRecDepth 100000 in
set_option maxHeartbeats 3200000 in
theorem alike_any (w0 w : World) (F G : List Nat) (p q : Nat) (s : Pl) (Φ : Nat) (h : SV w0 w F p s Φ) (hq : QP w G q s Φ) (hΦ : Φ ≤ 800) (hko : KO s) :
    Calls Tryz.prog 15 #[.pointer (some ⟨p, 0, none⟩), .pointer (some ⟨q, 0, none⟩)] w fun e w' => e = .returned (.bool true) ∧ Keeps [] w w' := by
  have hf := h.v.fit h.c
  have hli := h.li
  obtain ⟨nl, nc, ⟨LV, C, A1, A2, A3, c1, c2, c3, hq, hb1, hb2⟩, hn1, hn2⟩ := hq
  have HQ : ∀ W, Keeps [] w W → QAt W G q s LV C A1 A2 A3 c1 c2 c3 := fun W k => hq.keep0 k
  have HS : ∀ W, Keeps [] w W → SV w0 W F p s Φ := fun W k => h.keep0 k
  go_enter Tryz.func15, Tryz.ntmps15
  go_upto_region 1 with fail
  refine alk_any w p q c1 c2 c3 A1 A2 A3 s LV C _ (fun W k => ⟨(HQ W k).b.cell 0, (HQ W k).b.cell 1, (HQ W k).b.cell 2⟩) (fun W k => lines_sv (HS W k) hΦ) (fun W k A' c' vs hl => ?_) (fun W k => list_sv (HS W k) hΦ) (fun W k A' c' hr => ?_) (fun W k => ?_) (fun W k A' c' hr => ?_) _ _ _ _ _ _ _ _ _ _ _ _ _ _ _ _ _ _ _ _ _ _ _ _ _ _ _ _ ?_
  · obtain ⟨e1, e2⟩ := lines_lk hl (HQ W k).lsOK hf.itl
    exact sameL_any W A' A1 vs LV c' c1 hl.at_ (AtV.of_own (HQ W k).o1 (by omega)) e1 e2
  · exact sameR_any W A' A2 s.li c' c2 (fun W' k' => hr.keep k') (fun W' k' => AtR.of_own (HQ W' (k.trans k' (by simp))).o2 (by omega))
  · obtain ⟨lm, cm, nl', nc', A, c, f, hp, hnl, hnc⟩ := (HS W k).r
    refine (counts_any W F p s lm cm nl' nc' A c f hp (by omega) h.v.c.kc).mono ?_
    rintro e w' ⟨v, cs, rfl, g1, g2, g3, g4, -, g6⟩
    obtain rfl := counts_eq g1 g2 hq.csOK hko
    obtain ⟨Ax, cx, rfl, -⟩ := own_shape g3
    exact ⟨Ax, cx, rfl, AtC.of_own g3 (by omega), g4⟩
  · exact sameC_any W A' A3 C c' c3 (fun W' k' => hr.keep k') (fun W' k' => AtC.of_own (HQ W' (k.trans k' (by simp))).o3 (by omega))
  intro v5 v6 v7 v8 v9 v10 v11 v12 v13 v14 v15 v16 v17 v18 v19 v20 v21 v22 v23 v24 v25 v26 v27 v28 v29 W kW
  have KW := Lib.hid kW
  clear kW HQ HS
  go_wp2_with fail
  go_ret
  exact ⟨rfl, KW.out⟩
end Go.Proofs.YtcopjjokhjealaaGreat
