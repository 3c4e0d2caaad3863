/- The texts P7, W55 in one. -/
import Derived.Test.YtcopjjokhjealaaMI
import Derived.Test.YtcopjjokhjealaaMG
import Derived.StillTailTactics
namespace Go.Proofs.Ytcopjjokhjealaa
open Go.RowKit

/-- Two counts are equal but for the strays. -/
def Eq4 (a b : Ct) : Prop := a.runs = b.runs ∧ a.com = b.com ∧ a.con = b.con ∧ a.drp = b.drp
theorem Eq4.refl (a : Ct) : Eq4 a a := ⟨rfl, rfl, rfl, rfl⟩
theorem Eq4.trans {a b c : Ct} (h : Eq4 a b) (g : Eq4 b c) : Eq4 a c := ⟨h.1.trans g.1, h.2.1.trans g.2.1, h.2.2.1.trans g.2.2.1, h.2.2.2.trans g.2.2.2⟩
def sumS (i : Int) (s c : Ct) : Ct := if c.i = i then ⟨0, 0, s.runs + c.runs, s.com + c.com, s.con + c.con, s.drp + c.drp, 0⟩ else s
def sumC (D : List Ct) (i : Int) : Ct := D.foldl (sumS i) zC
theorem sumC_app (D : List Ct) (c : Ct) (i : Int) : sumC (D ++ [c]) i = sumS i (sumC D i) c := by unfold sumC; rw [List.foldl_append]; rfl
/-- What an operation adds. -/
def addK (x : Op) (n e : Int) : Option Ct :=
  if x.l = 0 ∧ e = 0 then
    if dk x < 4 then some ⟨0, x.i, 1, 0, 0, 0, 0⟩ else if dk x = 6 then some ⟨0, x.i, 0, 1, 0, 0, 0⟩ else if dk x = 7 then some ⟨0, x.i, 0, 0, 1, 0, 0⟩ else if dk x = 8 then some ⟨0, x.i, 0, 0, 0, 1, 0⟩ else if 12 ≤ dk x then some ⟨0, n, 1, 0, 0, 0, 0⟩ else none
  else none
def SumOk (D : List Ct) (s : Pl) : Prop := ∀ i, Eq4 (sumC D i) (cntOf s.ct 0 i)
/-- The counts of the main line are the same but for strays. -/
def Same0 (s s' : Pl) : Prop := ∀ i, Eq4 (cntOf s'.ct 0 i) (cntOf s.ct 0 i)
/-- One of the counts of the main line has grown. -/
def Grow0 (j : Int) (ad : Ct) (s s' : Pl) : Prop := ∀ i, Eq4 (cntOf s'.ct 0 i) (if j = i then addC 0 i (cntOf s.ct 0 i) ad else cntOf s.ct 0 i)
theorem Same0.refl (s : Pl) : Same0 s s := fun _ => .refl _
theorem Same0.trans {a b c : Pl} (h : Same0 a b) (g : Same0 b c) : Same0 a c := fun i => (g i).trans (h i)
theorem Grow0.trans {j : Int} {ad : Ct} {a b c : Pl} (h : Grow0 j ad a b) (g : Same0 b c) : Grow0 j ad a c := fun i => (g i).trans (h i)
theorem same0_of {s s' : Pl} (h : ∀ i, s'.ct (0, i) = s.ct (0, i)) : Same0 s s' := fun i => by
  unfold cntOf
  rw [h i]
  exact .refl _
theorem Rm.same0 {j : Job} {s s' : Pl} {o : List Int} (h : Rm j s s' o) (hp : ∀ x ∈ pend j, 0 < x) : Same0 s s' := same0_of (h.zero hp).2
theorem cntS_at (s : Pl) (l i : Int) (ad : Ct) (l' i' : Int) : cntOf (cntS s l i ad).ct l' i' = if (l', i') = (l, i) then addC l i (cntOf s.ct l i) ad else cntOf s.ct l' i' := by
  unfold cntOf
  show ((updG s.ct (l, i) _) (l', i')).getD zC = _
  by_cases h : (l', i') = (l, i)
  · rw [if_pos h, h, updG_same]; rfl
  · rw [if_neg h, updG_ne _ _ h]
theorem cntS_grow (s : Pl) (i : Int) (ad : Ct) : Grow0 i ad s (cntS s 0 i ad) := fun j => by
  rw [cntS_at]
  by_cases h : i = j
  · subst h; rw [if_pos rfl, if_pos rfl]; exact .refl _
  · rw [if_neg (fun e => h (by injection e with _ e; exact e.symm)), if_neg h]; exact .refl _
theorem cntS_same (s : Pl) {l : Int} (hl : l ≠ 0) (i : Int) (ad : Ct) : Same0 s (cntS s l i ad) := fun j => by
  rw [cntS_at, if_neg (fun e => hl (by injection e with e _; exact e.symm))]; exact .refl _
theorem cntS_str (s : Pl) (l i : Int) : Same0 s (cntS s l i strC) := fun j => by
  rw [cntS_at]
  by_cases h : ((0 : Int), j) = (l, i)
  · rw [if_pos h]
    injection h with h1 h2
    subst h1 h2
    simp [Eq4, addC, strC]
  · rw [if_neg h]; exact .refl _
theorem St.same0 {l : Int} {it : List Int} {s s' : Pl} {o : List Int} (h : St l it s s' o) : Same0 s s' := by
  induction h with
  | done _ => exact .refl _
  | step _ _ h1 _ ih => exact ((cntS_str _ _ _).trans (h1.same0 (fun x hx => by cases hx))).trans ih
theorem rem_nil {k : Nat} : ∀ x ∈ pend (.rem k), 0 < x := fun x hx => by cases hx
/-- What an operation does to the counts of the main line. -/
theorem DoR.grow {x : Op} {s s' : Pl} {o : List Int} {n e : Int} (hv : Inv NoR s) (h : DoR x s s' o n e) : match addK x n e with
    | none => Same0 s s'
    | some c => Grow0 c.i c s s' := by
  have hbeg : ∀ y t, begE s x.l y t = 0 → x.l = 0 → Grow0 y runC s (begS s x.l y t) := by
    intro y t hb hl
    unfold begS
    rw [if_pos hb, hl]
    exact cntS_grow (⟨s.ln, s.li ++ [⟨0, y, t, false⟩], s.ct⟩) y runC
  have hbeg2 : ∀ y t, ¬ (x.l = 0 ∧ begE s x.l y t = 0) → Same0 s (begS s x.l y t) := by
    intro y t hb
    unfold begS
    by_cases he : begE s x.l y t = 0
    · rw [if_pos he]
      exact cntS_same (⟨s.ln, s.li ++ [⟨x.l, y, t, false⟩], s.ct⟩) (fun hl => hb ⟨hl, he⟩) y runC
    · rw [if_neg he]; exact .refl _
  have hag : ∀ (ad : Ct) (s' : Pl) (o : List Int) (e : Int), AgR x.l x.i ad s s' o e → (x.l = 0 ∧ e = 0 → Grow0 x.i ad s s') ∧ (¬ (x.l = 0 ∧ e = 0) → Same0 s s') := by
    intro ad s' o e hr
    rcases hr with ⟨-, rfl, -, he⟩ | ⟨k, -, h2, he⟩
    · exact ⟨fun h => by omega, fun _ => .refl _⟩
    · refine ⟨fun h => ?_, fun h => ?_⟩
      · rw [h.1] at h2
        exact (cntS_grow s x.i ad).trans (h2.same0 rem_nil)
      · exact (cntS_same s (fun hl => h ⟨hl, he⟩) x.i ad).trans (h2.same0 rem_nil)
  cases h with
  | fin h =>
    unfold addK
    have e1 : ¬ dk x < 4 := by omega
    have e2 : ¬ dk x = 6 := by omega
    have e3 : ¬ dk x = 7 := by omega
    have e4 : ¬ dk x = 8 := by omega
    have e5 : ¬ 12 ≤ dk x := by omega
    simp only [if_neg e1, if_neg e2, if_neg e3, if_neg e4, if_neg e5, ite_self]
    unfold finS
    by_cases hf : fndI s.li x.l x.i < 0
    · rw [if_pos hf]; exact .refl _
    · rw [if_neg hf]; exact same0_of (fun _ => rfl)
  | com h hr =>
    unfold addK
    have e1 : ¬ dk x < 4 := by omega
    simp only [if_neg e1, if_pos h]
    rcases hr with ⟨-, rfl, -, rfl⟩ | ⟨k, r, m, y, h1, h2, h3, h4, h5⟩
    · rw [if_neg (by omega)]; exact .refl _
    rcases h5 with ⟨-, rfl, -, rfl⟩ | ⟨-, -, rfl, -, rfl⟩ | ⟨-, -, -, rfl, -, rfl⟩ | ⟨-, -, -, -, rfl, -, rfl⟩ | ⟨-, -, -, -, hst, rfl⟩
    · rw [if_neg (by omega)]; exact .refl _
    · rw [if_neg (by omega)]; exact .refl _
    · rw [if_neg (by omega)]; exact .refl _
    · rw [if_neg (by omega)]; exact .refl _
    · by_cases hl : x.l = 0
      · rw [if_pos ⟨hl, rfl⟩]
        dsimp only
        rw [hl] at hst
        have g : Grow0 x.i comC s (setIt (cntS (takeOut s k) 0 x.i comC) 0 m x.it) := fun i => cntS_grow (takeOut s k) x.i comC i
        exact g.trans hst.same0
      · rw [if_neg (fun q => hl q.1)]
        have g : Same0 s (setIt (cntS (takeOut s k) x.l x.i comC) x.l m x.it) := fun i => cntS_same (takeOut s k) hl x.i comC i
        exact g.trans hst.same0
  | con h hr =>
    unfold addK
    have e1 : ¬ dk x < 4 := by omega
    have e2 : ¬ dk x = 6 := by omega
    simp only [if_neg e1, if_neg e2, if_pos h]
    obtain ⟨g1, g2⟩ := hag _ _ _ _ hr
    by_cases hq : x.l = 0 ∧ e = 0
    · rw [if_pos hq]; exact g1 hq
    · rw [if_neg hq]; exact g2 hq
  | drp h hr =>
    unfold addK
    have e1 : ¬ dk x < 4 := by omega
    have e2 : ¬ dk x = 6 := by omega
    have e3 : ¬ dk x = 7 := by omega
    simp only [if_neg e1, if_neg e2, if_neg e3, if_pos h]
    obtain ⟨g1, g2⟩ := hag _ _ _ _ hr
    by_cases hq : x.l = 0 ∧ e = 0
    · rw [if_pos hq]; exact g1 hq
    · rw [if_neg hq]; exact g2 hq
  | gon h hr =>
    unfold addK
    have e1 : ¬ dk x < 4 := by omega
    have e2 : ¬ dk x = 6 := by omega
    have e3 : ¬ dk x = 7 := by omega
    have e4 : ¬ dk x = 8 := by omega
    have e5 : ¬ 12 ≤ dk x := by omega
    simp only [if_neg e1, if_neg e2, if_neg e3, if_neg e4, if_neg e5, ite_self]
    rcases hr with ⟨-, rfl, -⟩ | ⟨h0, h1, h2⟩
    · exact .refl _
    · obtain ⟨m, hm⟩ := Option.isSome_iff_exists.1 h1
      have := hv.c.id x.l m hm
      exact h2.same0 (fun z hz => by simp [pend] at hz; omega)
  | nes h hr =>
    unfold addK
    have e1 : ¬ dk x < 4 := by omega
    have e2 : ¬ dk x = 6 := by omega
    have e3 : ¬ dk x = 7 := by omega
    have e4 : ¬ dk x = 8 := by omega
    have e5 : ¬ 12 ≤ dk x := by omega
    simp only [if_neg e1, if_neg e2, if_neg e3, if_neg e4, if_neg e5, ite_self]
    rcases hr with ⟨-, rfl, -⟩ | ⟨-, -, rfl, -⟩ | ⟨-, -, -, rfl, -⟩ | ⟨-, -, -, -, rfl, -⟩ | ⟨-, -, -, -, -, rfl, -⟩
    · exact .refl _
    · exact .refl _
    · exact .refl _
    · exact .refl _
    · exact same0_of (fun _ => rfl)
  | ahn h ha =>
    unfold addK
    rw [if_neg (by omega)]
    exact .refl _
  | @ahb y h ha =>
    unfold addK
    have e1 : ¬ dk x < 4 := by omega
    have e2 : ¬ dk x = 6 := by omega
    have e3 : ¬ dk x = 7 := by omega
    have e4 : ¬ dk x = 8 := by omega
    simp only [if_neg e1, if_neg e2, if_neg e3, if_neg e4, if_pos h]
    by_cases hq : x.l = 0 ∧ begE s x.l n x.t = 0
    · rw [if_pos hq]; exact hbeg _ _ hq.2 hq.1
    · rw [if_neg hq]; exact hbeg2 _ _ hq
  | beg h =>
    unfold addK
    simp only [if_pos h]
    by_cases hq : x.l = 0 ∧ begE s x.l x.i x.t = 0
    · rw [if_pos hq]; exact hbeg _ _ hq.2 hq.1
    · rw [if_neg hq]; exact hbeg2 _ _ hq
theorem SumOk.doR {D : List Ct} {x : Op} {s s' : Pl} {o : List Int} {n e : Int} (hs : SumOk D s) (hv : Inv NoR s) (h : DoR x s s' o n e) : SumOk (D ++ (addK x n e).toList) s' := by
  have hg := h.grow hv
  cases hk : addK x n e with
  | none =>
    rw [hk] at hg
    intro i
    have hg : Same0 s s' := hg
    show Eq4 (sumC (D ++ []) i) _
    rw [List.append_nil]
    obtain ⟨a1, a2, a3, a4⟩ := hs i
    obtain ⟨b1, b2, b3, b4⟩ := hg i
    exact ⟨a1.trans b1.symm, a2.trans b2.symm, a3.trans b3.symm, a4.trans b4.symm⟩
  | some c =>
    rw [hk] at hg
    have hg : Grow0 c.i c s s' := hg
    intro i
    show Eq4 (sumC (D ++ [c]) i) _
    rw [sumC_app]
    obtain ⟨a1, a2, a3, a4⟩ := hs i
    obtain ⟨b1, b2, b3, b4⟩ := hg i
    unfold sumS
    by_cases hi : c.i = i
    · rw [if_pos hi] at b1 b2 b3 b4 ⊢
      simp only [addC] at b1 b2 b3 b4
      refine ⟨?_, ?_, ?_, ?_⟩ <;> dsimp only <;> omega
    · rw [if_neg hi] at b1 b2 b3 b4 ⊢
      exact ⟨a1.trans b1.symm, a2.trans b2.symm, a3.trans b3.symm, a4.trans b4.symm⟩
theorem addK_ok {x : Op} {n e : Int} {c : Ct} (h : addK x n e = some c) : OkM 1 c := by
  unfold addK at h
  split at h
  · repeat' split at h
    all_goals first | (injection h with h; subst h; refine ⟨?_, ?_, ?_, ?_, ?_⟩ <;> dsimp only <;> omega) | cases h
  · cases h
theorem sumC_le {D : List Ct} (h : ∀ c ∈ D, OkM 1 c) (i : Int) : OkM D.length (sumC D i) := by
  have key : ∀ (D : List Ct) (s : Ct) (k : Nat), OkM k s → (∀ c ∈ D, OkM 1 c) → OkM (k + D.length) (D.foldl (sumS i) s) := by
    intro D
    induction D with
    | nil => intro s k hs _; exact hs
    | cons c D ih =>
      intro s k hs hD
      have h1 : OkM (k + 1) (sumS i s c) := by
        obtain ⟨p0, p1, p2, p3, p4⟩ := hs
        obtain ⟨q0, q1, q2, q3, q4⟩ := hD c (by simp)
        unfold sumS
        by_cases hi : c.i = i
        · rw [if_pos hi]
          refine ⟨?_, ?_, ?_, ?_, ?_⟩ <;> dsimp only <;> omega
        · rw [if_neg hi]; exact ⟨by omega, by omega, by omega, by omega, by omega⟩
      have := ih _ _ h1 (fun c hc => hD c (by simp [hc]))
      simp only [List.foldl_cons, List.length_cons]
      have e : k + (D.length + 1) = k + 1 + D.length := by omega
      rw [e]
      exact this
  have := key D zC 0 ⟨by decide, by decide, by decide, by decide, by decide⟩ h
  rw [Nat.zero_add] at this
  exact this
/-- Every count is right. -/
theorem cnt_right {D : List Ct} {s : Pl} (hv : Inv NoR s) (hs : SumOk D s) {c : Ct} (h : s.ct (c.l, c.i) = some c) : c.runs = c.com + c.con + c.drp + c.str + (if runB s.li c.l c.i = true then 1 else 0) ∧ (c.l = 0 → Eq4 (sumC D c.i) c) := by
  refine ⟨(hv.b _ _ h).resolve_left (fun h => h), fun h0 => ?_⟩
  have := hs c.i
  unfold cntOf at this
  rw [h0] at h
  rw [h] at this
  exact this
end Go.Proofs.Ytcopjjokhjealaa
namespace Go.Proofs.Ytcopjjokhjealaa
open Go.RowKit

noncomputable def sum6C : Code := ((Try.f13.body.bind (theRegion 6)).getD .skip)
set_option maxRecDepth 1000000 in
set_option maxHeartbeats 3200000 in
theorem sum6_any (w : World) (bl off n c k b5 : Nat) (a d : Int) (x0 x1 x3 x4 x5 x6 : Value) (K : Exit → Act → World → Prop)
    (hb : Blk w b5 36 #[x0, x1, .int .i64 a, x3, x4, x5, x6]) (hd : w.cell? ⟨bl, off + k * 7 + 2, none⟩ = some (.int .i64 d)) (i1 : (k : Int) < n) (ha : 0 ≤ a ∧ a ≤ 1000) (hdd : 0 ≤ d ∧ d ≤ 1)
    (u1 u2 u3 u4 u7 u8 u9 u10 u11 u12 u13 u14 u15 u16 u17 u18 u19 u20 u21 u22 u23 u24 u25 u26 u27 u28 u29 u30 u31 u32 u33 u34 u35 u36 u37 u38 u39 u40 u41 u42 u43 u44 u45 u46 u47 u48 u49 u50 u51 u52 u53 u54 u55 u56 u57 u58 u59 u60 u61 u62 u63 u64 u65 u66 u67 u68 u69 u70 u71 u72 u73 u74 u75 u76 u77 u78 u79 u80 u81 u82 : Value)
    (hK : ∀ (v21 v22 v23 v24 v25 v26 v27 v28 v29 : Value) (W : World), Blk W b5 36 #[x0, x1, .int .i64 (a + d), x3, x4, x5, x6] → Keeps [b5] w W → K .normal ⟨#[.slice (some ⟨bl, off, none⟩) n c, u1, u2, u3, u4, .pointer (some ⟨b5, 0, none⟩), .int .i64 (k : Nat), u7, u8, u9, u10, u11, u12, u13, u14, u15, u16, u17, u18, u19, u20, v21, v22, v23, v24, v25, v26, v27, v28, v29, u30, u31, u32, u33, u34, u35, u36, u37, u38, u39, u40, u41, u42, u43, u44, u45, u46, u47, u48, u49, u50, u51, u52, u53, u54, u55, u56, u57, u58, u59, u60, u61, u62, u63, u64, u65, u66, u67, u68, u69, u70, u71, u72, u73, u74, u75, u76, u77, u78, u79, u80, u81, u82], []⟩ W) :
    Code.wp Try.prog sum6C K ⟨#[.slice (some ⟨bl, off, none⟩) n c, u1, u2, u3, u4, .pointer (some ⟨b5, 0, none⟩), .int .i64 (k : Nat), u7, u8, u9, u10, u11, u12, u13, u14, u15, u16, u17, u18, u19, u20, u21, u22, u23, u24, u25, u26, u27, u28, u29, u30, u31, u32, u33, u34, u35, u36, u37, u38, u39, u40, u41, u42, u43, u44, u45, u46, u47, u48, u49, u50, u51, u52, u53, u54, u55, u56, u57, u58, u59, u60, u61, u62, u63, u64, u65, u66, u67, u68, u69, u70, u71, u72, u73, u74, u75, u76, u77, u78, u79, u80, u81, u82], []⟩ w := by
  have i0 : (0 : Int) ≤ (k : Int) := by omega
  have x2 := hb.cell 2
  have fz := hb.frozen 2
  have HB := Lib.hid hb
  have KK : Hid (Keeps [b5] w (w.drew.setCell ⟨b5, 2, none⟩ (.int .i64 (a + d)))) := Lib.hid (((Keeps.refl [b5] w).drew).setCell (.inl (by simp)) _)
  clear hb
  conv => arg 2; whnf
  dsimp only at hK ⊢
  go_still_tail 9, (by kernel_rfl)
  change wpList _ _ _ _ _ w.drew
  go_wp2_with fail
  exact hK _ _ _ _ _ _ _ _ _ _ (HB.out.drew.set_ 2 _) KK.out
noncomputable def sum7C : Code := ((Try.f13.body.bind (theRegion 7)).getD .skip)
set_option maxRecDepth 1000000 in
set_option maxHeartbeats 3200000 in
theorem sum7_any (w : World) (bl off n c k b5 : Nat) (a d : Int) (x0 x1 x2 x4 x5 x6 : Value) (K : Exit → Act → World → Prop)
    (hb : Blk w b5 36 #[x0, x1, x2, .int .i64 a, x4, x5, x6]) (hd : w.cell? ⟨bl, off + k * 7 + 3, none⟩ = some (.int .i64 d)) (i1 : (k : Int) < n) (ha : 0 ≤ a ∧ a ≤ 1000) (hdd : 0 ≤ d ∧ d ≤ 1)
    (u1 u2 u3 u4 u7 u8 u9 u10 u11 u12 u13 u14 u15 u16 u17 u18 u19 u20 u21 u22 u23 u24 u25 u26 u27 u28 u29 u30 u31 u32 u33 u34 u35 u36 u37 u38 u39 u40 u41 u42 u43 u44 u45 u46 u47 u48 u49 u50 u51 u52 u53 u54 u55 u56 u57 u58 u59 u60 u61 u62 u63 u64 u65 u66 u67 u68 u69 u70 u71 u72 u73 u74 u75 u76 u77 u78 u79 u80 u81 u82 : Value)
    (hK : ∀ (v30 v31 v32 v33 v34 v35 v36 v37 v38 : Value) (W : World), Blk W b5 36 #[x0, x1, x2, .int .i64 (a + d), x4, x5, x6] → Keeps [b5] w W → K .normal ⟨#[.slice (some ⟨bl, off, none⟩) n c, u1, u2, u3, u4, .pointer (some ⟨b5, 0, none⟩), .int .i64 (k : Nat), u7, u8, u9, u10, u11, u12, u13, u14, u15, u16, u17, u18, u19, u20, u21, u22, u23, u24, u25, u26, u27, u28, u29, v30, v31, v32, v33, v34, v35, v36, v37, v38, u39, u40, u41, u42, u43, u44, u45, u46, u47, u48, u49, u50, u51, u52, u53, u54, u55, u56, u57, u58, u59, u60, u61, u62, u63, u64, u65, u66, u67, u68, u69, u70, u71, u72, u73, u74, u75, u76, u77, u78, u79, u80, u81, u82], []⟩ W) :
    Code.wp Try.prog sum7C K ⟨#[.slice (some ⟨bl, off, none⟩) n c, u1, u2, u3, u4, .pointer (some ⟨b5, 0, none⟩), .int .i64 (k : Nat), u7, u8, u9, u10, u11, u12, u13, u14, u15, u16, u17, u18, u19, u20, u21, u22, u23, u24, u25, u26, u27, u28, u29, u30, u31, u32, u33, u34, u35, u36, u37, u38, u39, u40, u41, u42, u43, u44, u45, u46, u47, u48, u49, u50, u51, u52, u53, u54, u55, u56, u57, u58, u59, u60, u61, u62, u63, u64, u65, u66, u67, u68, u69, u70, u71, u72, u73, u74, u75, u76, u77, u78, u79, u80, u81, u82], []⟩ w := by
  have i0 : (0 : Int) ≤ (k : Int) := by omega
  have x3 := hb.cell 3
  have fz := hb.frozen 3
  have HB := Lib.hid hb
  have KK : Hid (Keeps [b5] w (w.drew.setCell ⟨b5, 3, none⟩ (.int .i64 (a + d)))) := Lib.hid (((Keeps.refl [b5] w).drew).setCell (.inl (by simp)) _)
  clear hb
  conv => arg 2; whnf
  dsimp only at hK ⊢
  go_still_tail 9, (by kernel_rfl)
  change wpList _ _ _ _ _ w.drew
  go_wp2_with fail
  exact hK _ _ _ _ _ _ _ _ _ _ (HB.out.drew.set_ 3 _) KK.out
noncomputable def sum8C : Code := ((Try.f13.body.bind (theRegion 8)).getD .skip)
set_option maxRecDepth 1000000 in
set_option maxHeartbeats 3200000 in
theorem sum8_any (w : World) (bl off n c k b5 : Nat) (a d : Int) (x0 x1 x2 x3 x5 x6 : Value) (K : Exit → Act → World → Prop)
    (hb : Blk w b5 36 #[x0, x1, x2, x3, .int .i64 a, x5, x6]) (hd : w.cell? ⟨bl, off + k * 7 + 4, none⟩ = some (.int .i64 d)) (i1 : (k : Int) < n) (ha : 0 ≤ a ∧ a ≤ 1000) (hdd : 0 ≤ d ∧ d ≤ 1)
    (u1 u2 u3 u4 u7 u8 u9 u10 u11 u12 u13 u14 u15 u16 u17 u18 u19 u20 u21 u22 u23 u24 u25 u26 u27 u28 u29 u30 u31 u32 u33 u34 u35 u36 u37 u38 u39 u40 u41 u42 u43 u44 u45 u46 u47 u48 u49 u50 u51 u52 u53 u54 u55 u56 u57 u58 u59 u60 u61 u62 u63 u64 u65 u66 u67 u68 u69 u70 u71 u72 u73 u74 u75 u76 u77 u78 u79 u80 u81 u82 : Value)
    (hK : ∀ (v39 v40 v41 v42 v43 v44 v45 v46 v47 : Value) (W : World), Blk W b5 36 #[x0, x1, x2, x3, .int .i64 (a + d), x5, x6] → Keeps [b5] w W → K .normal ⟨#[.slice (some ⟨bl, off, none⟩) n c, u1, u2, u3, u4, .pointer (some ⟨b5, 0, none⟩), .int .i64 (k : Nat), u7, u8, u9, u10, u11, u12, u13, u14, u15, u16, u17, u18, u19, u20, u21, u22, u23, u24, u25, u26, u27, u28, u29, u30, u31, u32, u33, u34, u35, u36, u37, u38, v39, v40, v41, v42, v43, v44, v45, v46, v47, u48, u49, u50, u51, u52, u53, u54, u55, u56, u57, u58, u59, u60, u61, u62, u63, u64, u65, u66, u67, u68, u69, u70, u71, u72, u73, u74, u75, u76, u77, u78, u79, u80, u81, u82], []⟩ W) :
    Code.wp Try.prog sum8C K ⟨#[.slice (some ⟨bl, off, none⟩) n c, u1, u2, u3, u4, .pointer (some ⟨b5, 0, none⟩), .int .i64 (k : Nat), u7, u8, u9, u10, u11, u12, u13, u14, u15, u16, u17, u18, u19, u20, u21, u22, u23, u24, u25, u26, u27, u28, u29, u30, u31, u32, u33, u34, u35, u36, u37, u38, u39, u40, u41, u42, u43, u44, u45, u46, u47, u48, u49, u50, u51, u52, u53, u54, u55, u56, u57, u58, u59, u60, u61, u62, u63, u64, u65, u66, u67, u68, u69, u70, u71, u72, u73, u74, u75, u76, u77, u78, u79, u80, u81, u82], []⟩ w := by
  have i0 : (0 : Int) ≤ (k : Int) := by omega
  have x4 := hb.cell 4
  have fz := hb.frozen 4
  have HB := Lib.hid hb
  have KK : Hid (Keeps [b5] w (w.drew.setCell ⟨b5, 4, none⟩ (.int .i64 (a + d)))) := Lib.hid (((Keeps.refl [b5] w).drew).setCell (.inl (by simp)) _)
  clear hb
  conv => arg 2; whnf
  dsimp only at hK ⊢
  go_still_tail 9, (by kernel_rfl)
  change wpList _ _ _ _ _ w.drew
  go_wp2_with fail
  exact hK _ _ _ _ _ _ _ _ _ _ (HB.out.drew.set_ 4 _) KK.out
noncomputable def sum9C : Code := ((Try.f13.body.bind (theRegion 9)).getD .skip)
set_option maxRecDepth 1000000 in
set_option maxHeartbeats 3200000 in
theorem sum9_any (w : World) (bl off n c k b5 : Nat) (a d : Int) (x0 x1 x2 x3 x4 x6 : Value) (K : Exit → Act → World → Prop)
    (hb : Blk w b5 36 #[x0, x1, x2, x3, x4, .int .i64 a, x6]) (hd : w.cell? ⟨bl, off + k * 7 + 5, none⟩ = some (.int .i64 d)) (i1 : (k : Int) < n) (ha : 0 ≤ a ∧ a ≤ 1000) (hdd : 0 ≤ d ∧ d ≤ 1)
    (u1 u2 u3 u4 u7 u8 u9 u10 u11 u12 u13 u14 u15 u16 u17 u18 u19 u20 u21 u22 u23 u24 u25 u26 u27 u28 u29 u30 u31 u32 u33 u34 u35 u36 u37 u38 u39 u40 u41 u42 u43 u44 u45 u46 u47 u48 u49 u50 u51 u52 u53 u54 u55 u56 u57 u58 u59 u60 u61 u62 u63 u64 u65 u66 u67 u68 u69 u70 u71 u72 u73 u74 u75 u76 u77 u78 u79 u80 u81 u82 : Value)
    (hK : ∀ (v48 v49 v50 v51 v52 v53 v54 v55 v56 : Value) (W : World), Blk W b5 36 #[x0, x1, x2, x3, x4, .int .i64 (a + d), x6] → Keeps [b5] w W → K .normal ⟨#[.slice (some ⟨bl, off, none⟩) n c, u1, u2, u3, u4, .pointer (some ⟨b5, 0, none⟩), .int .i64 (k : Nat), u7, u8, u9, u10, u11, u12, u13, u14, u15, u16, u17, u18, u19, u20, u21, u22, u23, u24, u25, u26, u27, u28, u29, u30, u31, u32, u33, u34, u35, u36, u37, u38, u39, u40, u41, u42, u43, u44, u45, u46, u47, v48, v49, v50, v51, v52, v53, v54, v55, v56, u57, u58, u59, u60, u61, u62, u63, u64, u65, u66, u67, u68, u69, u70, u71, u72, u73, u74, u75, u76, u77, u78, u79, u80, u81, u82], []⟩ W) :
    Code.wp Try.prog sum9C K ⟨#[.slice (some ⟨bl, off, none⟩) n c, u1, u2, u3, u4, .pointer (some ⟨b5, 0, none⟩), .int .i64 (k : Nat), u7, u8, u9, u10, u11, u12, u13, u14, u15, u16, u17, u18, u19, u20, u21, u22, u23, u24, u25, u26, u27, u28, u29, u30, u31, u32, u33, u34, u35, u36, u37, u38, u39, u40, u41, u42, u43, u44, u45, u46, u47, u48, u49, u50, u51, u52, u53, u54, u55, u56, u57, u58, u59, u60, u61, u62, u63, u64, u65, u66, u67, u68, u69, u70, u71, u72, u73, u74, u75, u76, u77, u78, u79, u80, u81, u82], []⟩ w := by
  have i0 : (0 : Int) ≤ (k : Int) := by omega
  have x5 := hb.cell 5
  have fz := hb.frozen 5
  have HB := Lib.hid hb
  have KK : Hid (Keeps [b5] w (w.drew.setCell ⟨b5, 5, none⟩ (.int .i64 (a + d)))) := Lib.hid (((Keeps.refl [b5] w).drew).setCell (.inl (by simp)) _)
  clear hb
  conv => arg 2; whnf
  dsimp only at hK ⊢
  go_still_tail 9, (by kernel_rfl)
  change wpList _ _ _ _ _ w.drew
  go_wp2_with fail
  exact hK _ _ _ _ _ _ _ _ _ _ (HB.out.drew.set_ 5 _) KK.out
/-- Counts in memory. -/
structure AtC (w : World) (A : Option Addr) (L : List Ct) : Prop where
  at_ : 0 < L.length → ∃ b off, A = some ⟨b, off, none⟩ ∧ b < w.heap.size ∧ ∀ k (hk : k < L.length) j (_ : j < 7) u, (ccs L[k])[j]? = some u → w.cell? ⟨b, off + k * 7 + j, none⟩ = some u
  mx : L.length ≤ 1000
theorem AtC.keep {w w' : World} {A : Option Addr} {L : List Ct} (h : AtC w A L) (hk : Keeps [] w w') : AtC w' A L := by
  refine ⟨fun h0 => ?_, h.mx⟩
  obtain ⟨b, off, h1, h2, h3⟩ := h.at_ h0
  exact ⟨b, off, h1, Nat.lt_of_lt_of_le h2 hk.size, fun k hlt j hj u hu => (hk.cell (p := ⟨b, off + k * 7 + j, none⟩) h2 (by simp)).trans (h3 k hlt j hj u hu)⟩
theorem AtC.of_own {w : World} {A : Option Addr} {c : Nat} {L : List Ct} (h : w.ownsRow 0 36 7 (.slice A L.length c) L.length (rw ccs L)) (hm : L.length ≤ 1000) : AtC w A L := by
  refine ⟨fun h0 => ?_, hm⟩
  obtain ⟨_, _, hv, -, -, hA⟩ := own_shape h
  obtain ⟨g, hg⟩ := hA h0
  obtain ⟨rfl, -, rfl⟩ : A = _ ∧ L.length = _ ∧ c = _ := by injection hv with h1 h2 h3; exact ⟨h1, rfl, h3⟩
  subst hg
  refine ⟨g, 0, rfl, own_lt h (by simp [fp, Value.ownBlock]), fun k hk j hj u hu => ?_⟩
  rw [Nat.zero_add]
  exact own_cell h (by rw [rw_at ccs_len hk hj]; exact hu)
/-- The sum so far. -/
def scs (s : Ct) : Array Value := #[.int .i64 0, .int .i64 0, .int .i64 s.runs, .int .i64 s.com, .int .i64 s.con, .int .i64 s.drp, .int .i64 0]
theorem sumC_take {D : List Ct} {k : Nat} (hk : k < D.length) (i : Int) : sumC (D.take (k + 1)) i = sumS i (sumC (D.take k) i) D[k] := by
  rw [List.take_add_one, List.getElem?_eq_getElem hk]
  exact sumC_app _ _ _
set_option maxRecDepth 1000000 in
set_option maxHeartbeats 6400000 in
theorem summed_any (w : World) (A : Option Addr) (D : List Ct) (c : Nat) (y : Ct) (ha : AtC w A D) (hD : ∀ d ∈ D, OkM 1 d) (heq : Eq4 (sumC D y.i) y) :
    Calls Try.prog 13 #[.slice A D.length c, .agg #[.int .i64 y.l, .int .i64 y.i, .int .i64 y.runs, .int .i64 y.com, .int .i64 y.con, .int .i64 y.drp, .int .i64 y.str]] w fun e w' => e = .returned (.bool true) ∧ Keeps [] w w' := by
  obtain ⟨w1, hw1⟩ : ∃ w1, w.alloc (.cells #[.int .i64 y.l, .int .i64 y.i, .int .i64 y.runs, .int .i64 y.com, .int .i64 y.con, .int .i64 y.drp, .int .i64 y.str] 36) = w1 := ⟨_, rfl⟩
  have k1 : Keeps [] w w1 := by rw [← hw1]; exact (Keeps.refl [] w).alloc _
  have ba : Blk w1 w.heap.size 36 #[.int .i64 y.l, .int .i64 y.i, .int .i64 y.runs, .int .i64 y.com, .int .i64 y.con, .int .i64 y.drp, .int .i64 y.str] := by rw [← hw1]; exact Blk.new _ _ _
  obtain ⟨b3, hb3⟩ : ∃ b3, w.heap.size = b3 := ⟨_, rfl⟩
  have HSZ := Lib.hid hb3
  rw [hb3] at ba
  have hmx := ha.mx
  have k2 := k1.alloc (.cells #[.int .i64 0, .int .i64 0, .int .i64 0, .int .i64 0, .int .i64 0, .int .i64 0, .int .i64 0] 36)
  have bs := Blk.new w1 36 #[.int .i64 0, .int .i64 0, .int .i64 0, .int .i64 0, .int .i64 0, .int .i64 0, .int .i64 0]
  have ba2 := ba.alloc (.cells #[.int .i64 0, .int .i64 0, .int .i64 0, .int .i64 0, .int .i64 0, .int .i64 0, .int .i64 0] 36)
  have BA := Lib.hid ba
  have K2 := Lib.hid k2
  have BS := Lib.hid bs
  have BA2 := Lib.hid ba2
  have HA0 := Lib.hid ha
  have HDD := Lib.hid hD
  have HEQ := Lib.hid heq
  have LT := Lib.hid ba.lt
  clear k1 ba k2 bs ba2 ha hD heq
  go_enter Try.func13, Try.ntmps13
  go_wp2_with fail
  obtain ⟨w2, hw2⟩ : ∃ w2, w1.alloc (.cells #[.int .i64 0, .int .i64 0, .int .i64 0, .int .i64 0, .int .i64 0, .int .i64 0, .int .i64 0] 36) = w2 := ⟨_, rfl⟩
  obtain ⟨b5, hb5⟩ : ∃ b5, w1.heap.size = b5 := ⟨_, rfl⟩
  have hb35 : Hid (b3 ≠ b5) := Lib.hid (by rw [← hb5]; exact Nat.ne_of_lt LT.out)
  have hw5 : Hid (w.heap.size ≤ b5) := Lib.hid (by have h1 := HSZ.out; have h2 := LT.out; rw [hb5] at h2; omega)
  rw [hw2] at K2 BS BA2 ⊢
  rw [hb5] at BS ⊢
  try rw [hb3]
  clear hw2 hb5 hw1 BA LT HSZ hb3
  go_loopw [6] (fun iv wr => ∃ k : Nat, k ≤ D.length ∧ iv = .int .i64 k ∧ Keeps [b5] w2 wr ∧ Blk wr b5 36 (scs (sumC (D.take k) y.i))) (fun iv _ => D.length - (intOf iv).toNat)
  case atStart => exact ⟨0, by omega, rfl, Keeps.refl _ _, BS.out⟩
  case round =>
    obtain ⟨k, hk, rfl, kr, hb⟩ := hrel
    have KR := Lib.hid kr
    by_cases hlt : k < D.length
    · obtain ⟨bl, off, hAA, hbl, hc⟩ := HA0.out.at_ (by omega)
      subst hAA
      have i0 : (0 : Int) ≤ (k : Int) := by omega
      have i1 : (k : Int) < (D.length : Int) := by omega
      have hne : bl ≠ b5 := fun e => by have := hw5.out; omega
      have HC : Hid (∀ W, Keeps [b5] w2 W → ∀ j (_ : j < 7) u, (ccs D[k])[j]? = some u → W.cell? ⟨bl, off + k * 7 + j, none⟩ = some u) := Lib.hid (fun W hW j hj u hu => by
        have e1 := hW.cell (p := ⟨bl, off + k * 7 + j, none⟩) (Nat.lt_of_lt_of_le hbl K2.out.size) (by simpa using hne)
        have e2 := K2.out.cell (p := ⟨bl, off + k * 7 + j, none⟩) hbl (by simp)
        exact (e1.trans e2).trans (hc k hlt j hj u hu))
      have HT := sumC_take hlt y.i
      have hs0 : OkM k (sumC (D.take k) y.i) := by
        have := sumC_le (D := D.take k) (fun d hd => HDD.out d (List.mem_of_mem_take hd)) y.i
        rw [List.length_take, Nat.min_eq_left hk] at this
        exact this
      have hd0 := HDD.out D[k] (List.getElem_mem hlt)
      obtain ⟨S, hS⟩ : ∃ S, sumC (D.take k) y.i = S := ⟨_, rfl⟩
      obtain ⟨d, hd⟩ : ∃ d, D[k] = d := ⟨_, rfl⟩
      rw [hS] at hb HT hs0
      rw [hd] at HC HT hd0
      have HTT := Lib.hid HT
      have HS := Lib.hid hs0
      have HD := Lib.hid hd0
      have HB := Lib.hid hb
      have HA : Hid (∀ W, Keeps [b5] w2 W → W.cell? ⟨bl, off + k * 7 + 2, none⟩ = some (.int .i64 d.runs) ∧ W.cell? ⟨bl, off + k * 7 + 3, none⟩ = some (.int .i64 d.com) ∧ W.cell? ⟨bl, off + k * 7 + 4, none⟩ = some (.int .i64 d.con) ∧ W.cell? ⟨bl, off + k * 7 + 5, none⟩ = some (.int .i64 d.drp)) := Lib.hid (fun W hW => ⟨HC.out W hW 2 (by omega) _ rfl, HC.out W hW 3 (by omega) _ rfl, HC.out W hW 4 (by omega) _ rfl, HC.out W hW 5 (by omega) _ rfl⟩)
      have e1 := HC.out wr kr 1 (by omega) _ rfl
      have y1 : wr.cell? ⟨b3, 1, none⟩ = some (.int .i64 y.i) := (BA2.out.keep kr (by simpa using hb35.out)).cell 1
      clear kr hc HC HT hs0 hd0 hS hd hb HA0 BS
      by_cases hyi : d.i = y.i
      · have hT := HTT.out
        unfold sumS at hT
        rw [if_pos hyi] at hT
        have HT2 := Lib.hid hT
        clear hT
        go_upto_region 6 with go_quiet (fail)
        have k0 : Keeps [b5] w2 (wr.drewN nq) := KR.out.drewN _
        have hb0 := HB.out.drewN nq
        obtain ⟨W0, hW0⟩ : ∃ W0, wr.drewN nq = W0 := ⟨_, rfl⟩
        rw [hW0] at k0 hb0 ⊢
        have KK0 := Lib.hid k0
        have HB0 := Lib.hid hb0
        clear k0 hb0 hW0
        have hd0 := (HA.out W0 KK0.out).1
        refine sum6_any W0 bl off D.length c k b5 S.runs d.runs (.int .i64 0) (.int .i64 0) (.int .i64 S.com) (.int .i64 S.con) (.int .i64 S.drp) (.int .i64 0) _ HB0.out hd0 i1 ⟨HS.out.b0.1, by have := HS.out.b0.2; omega⟩ (HD.out).b0 _ _ _ _ _ _ _ _ _ _ _ _ _ _ _ _ _ _ _ _ _ _ _ _ _ _ _ _ _ _ _ _ _ _ _ _ _ _ _ _ _ _ _ _ _ _ _ _ _ _ _ _ _ _ _ _ _ _ _ _ _ _ _ _ _ _ _ _ _ _ _ _ _ _ _ _ _ _ _ _ ?_
        intro v21 v22 v23 v24 v25 v26 v27 v28 v29 W1 hb k'
        have HB1 := Lib.hid hb
        have KK1 := Lib.hid (KK0.out.trans k' (by simp))
        clear hb k' hd0
        go_upto_region 7 with fail
        have hd1 := (HA.out W1 KK1.out).2.1
        refine sum7_any W1 bl off D.length c k b5 S.com d.com (.int .i64 0) (.int .i64 0) (.int .i64 (S.runs + d.runs)) (.int .i64 S.con) (.int .i64 S.drp) (.int .i64 0) _ HB1.out hd1 i1 ⟨HS.out.b1.1, by have := HS.out.b1.2; omega⟩ (HD.out).b1 _ _ _ _ _ _ _ _ _ _ _ _ _ _ _ _ _ _ _ _ _ _ _ _ _ _ _ _ _ _ _ _ _ _ _ _ _ _ _ _ _ _ _ _ _ _ _ _ _ _ _ _ _ _ _ _ _ _ _ _ _ _ _ _ _ _ _ _ _ _ _ _ _ _ _ _ _ _ _ _ ?_
        intro v30 v31 v32 v33 v34 v35 v36 v37 v38 W2 hb k'
        have HB2 := Lib.hid hb
        have KK2 := Lib.hid (KK1.out.trans k' (by simp))
        clear hb k' hd1
        go_upto_region 8 with fail
        have hd2 := (HA.out W2 KK2.out).2.2.1
        refine sum8_any W2 bl off D.length c k b5 S.con d.con (.int .i64 0) (.int .i64 0) (.int .i64 (S.runs + d.runs)) (.int .i64 (S.com + d.com)) (.int .i64 S.drp) (.int .i64 0) _ HB2.out hd2 i1 ⟨HS.out.b2.1, by have := HS.out.b2.2; omega⟩ (HD.out).b2 _ _ _ _ _ _ _ _ _ _ _ _ _ _ _ _ _ _ _ _ _ _ _ _ _ _ _ _ _ _ _ _ _ _ _ _ _ _ _ _ _ _ _ _ _ _ _ _ _ _ _ _ _ _ _ _ _ _ _ _ _ _ _ _ _ _ _ _ _ _ _ _ _ _ _ _ _ _ _ _ ?_
        intro v39 v40 v41 v42 v43 v44 v45 v46 v47 W3 hb k'
        have HB3 := Lib.hid hb
        have KK3 := Lib.hid (KK2.out.trans k' (by simp))
        clear hb k' hd2
        go_upto_region 9 with fail
        have hd3 := (HA.out W3 KK3.out).2.2.2
        refine sum9_any W3 bl off D.length c k b5 S.drp d.drp (.int .i64 0) (.int .i64 0) (.int .i64 (S.runs + d.runs)) (.int .i64 (S.com + d.com)) (.int .i64 (S.con + d.con)) (.int .i64 0) _ HB3.out hd3 i1 ⟨HS.out.b3.1, by have := HS.out.b3.2; omega⟩ (HD.out).b3 _ _ _ _ _ _ _ _ _ _ _ _ _ _ _ _ _ _ _ _ _ _ _ _ _ _ _ _ _ _ _ _ _ _ _ _ _ _ _ _ _ _ _ _ _ _ _ _ _ _ _ _ _ _ _ _ _ _ _ _ _ _ _ _ _ _ _ _ _ _ _ _ _ _ _ _ _ _ _ _ ?_
        intro v48 v49 v50 v51 v52 v53 v54 v55 v56 W4 hb k'
        have HB4 := Lib.hid hb
        have KK4 := Lib.hid (KK3.out.trans k' (by simp))
        clear hb k' hd3
        clear hyi
        go_wp2_with fail
        go_roundw
        case rel => exact ⟨k + 1, by omega, by go_num, KK4.out, by rw [HT2.out]; exact HB4.out⟩
        case measure => simp [intOf]; omega
      · have hT := HTT.out
        unfold sumS at hT
        rw [if_neg hyi] at hT
        have HT2 := Lib.hid hT
        clear hT
        go_wp2_with go_quiet (fail)
        go_roundw
        case rel => exact ⟨k + 1, by omega, by go_num, KR.out.drewN _, by rw [HT2.out]; exact HB.out.drewN _⟩
        case measure => simp [intOf]; omega
    · obtain rfl : k = D.length := by omega
      rw [List.take_length] at hb
      obtain ⟨g1, g2, g3, g4⟩ := HEQ.out
      unfold scs at hb
      rw [g1, g2, g3, g4] at hb
      have by3 := BA2.out.keep kr (by simpa using hb35.out)
      have s2 : wr.cell? ⟨b5, 2, none⟩ = some (.int .i64 y.runs) := hb.cell 2
      have s3 : wr.cell? ⟨b5, 3, none⟩ = some (.int .i64 y.com) := hb.cell 3
      have s4 : wr.cell? ⟨b5, 4, none⟩ = some (.int .i64 y.con) := hb.cell 4
      have s5 : wr.cell? ⟨b5, 5, none⟩ = some (.int .i64 y.drp) := hb.cell 5
      have y2 : wr.cell? ⟨b3, 2, none⟩ = some (.int .i64 y.runs) := by3.cell 2
      have y3 : wr.cell? ⟨b3, 3, none⟩ = some (.int .i64 y.com) := by3.cell 3
      have y4 : wr.cell? ⟨b3, 4, none⟩ = some (.int .i64 y.con) := by3.cell 4
      have y5 : wr.cell? ⟨b3, 5, none⟩ = some (.int .i64 y.drp) := by3.cell 5
      clear hb by3 kr g1 g2 g3 g4
      go_wp2_with fail
      go_ret
      exact ⟨rfl, K2.out.trans KR.out (by simpa using hw5.out)⟩
end Go.Proofs.Ytcopjjokhjealaa
