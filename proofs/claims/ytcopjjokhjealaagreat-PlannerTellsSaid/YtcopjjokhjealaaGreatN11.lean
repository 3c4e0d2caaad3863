/- The reference: Failed, Dropped, Gone. -/
import Derived.Test.YtcopjjokhjealaaGreatN10
namespace Go.Proofs.YtcopjjokhjealaaGreat
open Go.RowKit

theorem countB_any (w : World) (G : List Nat) (q : Nat) (s : Pl) (nl nc B : Nat) (h : QB w G q s nl nc B) (hnc : nc ≤ 1000) (a : Ct) (M : Nat) (hM : M ≤ 1000000) (hc : CapM M s.ct) (ha : OkM 1 a) :
    Calls Tryz.prog 57 #[.pointer (some ⟨q, 0, none⟩), .agg #[.int .i64 a.l, .int .i64 a.i, .int .i64 a.runs, .int .i64 a.com, .int .i64 a.con, .int .i64 a.drp, .int .i64 a.str]] w fun e w' => e = .returned (.tuple #[]) ∧ QM w w' G q (cntS s a.l a.i a) nl (nc + 1) B := by
  obtain ⟨LV, C, A1, A2, A3, c1, c2, c3, h, h1, h2, h3⟩ := h
  refine (countQ_any w G q s LV C A1 A2 A3 c1 c2 c3 h (by omega) a M hM hc ha).mono ?_
  rintro e w' ⟨rfl, G', C', A3', c3', hq, hl, hk, hG⟩
  exact ⟨rfl, G', ⟨LV, C', A1, A2, A3', c1, c2, c3', hq, h1, by omega, h3⟩, hk, hG⟩
theorem cntS_c {s : Pl} {l i : Int} {a b : Ct} (h : addC l i (cntOf s.ct l i) a = addC l i (cntOf s.ct l i) b) : cntS s l i a = cntS s l i b := by unfold cntS; rw [h]
theorem QM.trans {w w1 w' : World} {G G1 : List Nat} {q : Nat} {s : Pl} {nl nc B : Nat} (k1 : Keeps [q] w w1) (f1 : ∀ g ∈ G1, g ∈ G ∨ w.heap.size ≤ g) (h : QM w1 w' G1 q s nl nc B) : QM w w' G q s nl nc B := by
  obtain ⟨G', h, k, f⟩ := h
  exact ⟨G', h, k1.trans k (fun g hg => .inl hg), fun g hg => (f g hg).elim (f1 g) (fun h => .inr (Nat.le_trans k1.size h))⟩
set_option maxRecDepth 100000 in
set_option maxHeartbeats 3200000 in
theorem failedQ_any (w : World) (G : List Nat) (q : Nat) (s : Pl) (nl nc : Nat) (h : QR w G q s nl nc) (hnl : nl ≤ 1000) (hnc : nc + s.li.length ≤ 1000) (X : Rn → Prop) (c : Core X s) (M : Nat) (hM : M ≤ 1000000) (hc : CapM M s.ct) (l i : Int) :
    Calls Tryz.prog 30 #[.pointer (some ⟨q, 0, none⟩), .int .i64 l, .int .i64 i] w fun e w' =>
      ∃ v s' o en nc', e = .returned (.tuple #[v, .int .i64 en]) ∧ AgR l i conC s s' o en ∧ w'.ownsRow 0 3 1 v o.length (zs o) ∧ QN w w' G q s' nl nc' ∧ nc' + s'.li.length ≤ nc + s.li.length ∧ ∀ g ∈ fp v, w.heap.size ≤ g := by
  have HQ := Lib.hid h.toB
  obtain ⟨A2, c2, f1, hat⟩ := HQ.out.run (by omega)
  have HF := Lib.hid (runQ_any w q A2 s.li c2 l i f1 hat)
  have HR := Lib.hid h
  have CQ := Lib.hid (countB_any w G q s nl nc _ h.toB (by omega) ⟨l, i, 0, 0, 1, 0, 0⟩ M hM hc ⟨by simp, by simp, by simp, by simp, by simp⟩)
  have HC := Lib.hid c
  clear h hat hc c
  by_cases hneg : fndI s.li l i < 0
  · have HE : Hid (AgR l i conC s s [] 4) := Lib.hid (.inl ⟨hneg, rfl, rfl, rfl⟩)
    obtain ⟨I, hI⟩ : ∃ I, fndI s.li l i = I := ⟨_, rfl⟩
    rw [hI] at hneg HF
    clear hI CQ
    go_enter Tryz.func30, Tryz.ntmps30
    go_wp2_with fail
    refine HF.out.mono ?_
    rintro e w1 ⟨rfl, rfl⟩
    go_wp2_with fail
    go_ret2
    exact ⟨_, s, [], 4, nc, rfl, HE.out, World.ownsRow_nil _ _ _ _, QN.same HR.out (Keeps.refl _ _), Nat.le_refl _, by simp⟩
  · obtain ⟨k, hk, hkI⟩ := ixF_lt hneg
    have hkI : fndI s.li l i = k := hkI
    have HKI := Lib.hid hkI
    rw [hkI] at HF
    clear hneg hkI
    go_enter Tryz.func30, Tryz.ntmps30
    go_wp2_with fail
    refine HF.out.mono ?_
    rintro e w1 ⟨rfl, rfl⟩
    go_wp2_with fail
    refine CQ.out.mono ?_
    rintro e w2 ⟨rfl, G2, hq2, hk2, hg2⟩
    have K2 := Lib.hid hk2
    have G2F := Lib.hid hg2
    have Q2 := Lib.hid hq2
    clear hk2 hg2 hq2 CQ HF
    go_wp2_with fail
    refine ((rm_ct 1000 (by omega)).1 w2 G2 q _ nl (nc + 1) w1.heap.size X k Q2.out K2.out.size hnl (by omega) (show s.li.length ≤ 1000 by omega) (HC.out.cnt _ _ _) hk).mono ?_
    rintro e w3 ⟨v, o, s', rfl, hr, ho, hq3, hf3⟩
    have hlt := hr.lt
    have hlt : s'.li.length < s.li.length := hlt
    have hz := K2.out.size
    have HRM : Hid (AgR l i conC s s' o 0) := Lib.hid (.inr ⟨k, HKI.out, hr, rfl⟩)
    have HO := Lib.hid ho
    have QQ := Lib.hid (QM.trans K2.out G2F.out hq3)
    have FF := Lib.hid hf3
    obtain ⟨A5, c5, rfl, -, -, -⟩ := own_shape ho
    clear hr ho hq3 hf3
    go_wp2_with fail
    go_ret2
    exact ⟨_, s', o, 0, nc + 1, rfl, HRM.out, HO.out, QQ.out.toN, by omega, fun g hg => Nat.le_trans hz (FF.out g hg)⟩
set_option maxRecDepth 100000 in
set_option maxHeartbeats 3200000 in
theorem droppedQ_any (w : World) (G : List Nat) (q : Nat) (s : Pl) (nl nc : Nat) (h : QR w G q s nl nc) (hnl : nl ≤ 1000) (hnc : nc + s.li.length ≤ 1000) (X : Rn → Prop) (c : Core X s) (M : Nat) (hM : M ≤ 1000000) (hc : CapM M s.ct) (l i : Int) :
    Calls Tryz.prog 31 #[.pointer (some ⟨q, 0, none⟩), .int .i64 l, .int .i64 i] w fun e w' =>
      ∃ v s' o en nc', e = .returned (.tuple #[v, .int .i64 en]) ∧ AgR l i drpC s s' o en ∧ w'.ownsRow 0 3 1 v o.length (zs o) ∧ QN w w' G q s' nl nc' ∧ nc' + s'.li.length ≤ nc + s.li.length ∧ ∀ g ∈ fp v, w.heap.size ≤ g := by
  have HQ := Lib.hid h.toB
  obtain ⟨A2, c2, f1, hat⟩ := HQ.out.run (by omega)
  have HF := Lib.hid (runQ_any w q A2 s.li c2 l i f1 hat)
  have HR := Lib.hid h
  have CQ := Lib.hid (countB_any w G q s nl nc _ h.toB (by omega) ⟨l, i, 0, 0, 0, 1, 0⟩ M hM hc ⟨by simp, by simp, by simp, by simp, by simp⟩)
  have HC := Lib.hid c
  clear h hat hc c
  by_cases hneg : fndI s.li l i < 0
  · have HE : Hid (AgR l i drpC s s [] 4) := Lib.hid (.inl ⟨hneg, rfl, rfl, rfl⟩)
    obtain ⟨I, hI⟩ : ∃ I, fndI s.li l i = I := ⟨_, rfl⟩
    rw [hI] at hneg HF
    clear hI CQ
    go_enter Tryz.func31, Tryz.ntmps31
    go_wp2_with fail
    refine HF.out.mono ?_
    rintro e w1 ⟨rfl, rfl⟩
    go_wp2_with fail
    go_ret2
    exact ⟨_, s, [], 4, nc, rfl, HE.out, World.ownsRow_nil _ _ _ _, QN.same HR.out (Keeps.refl _ _), Nat.le_refl _, by simp⟩
  · obtain ⟨k, hk, hkI⟩ := ixF_lt hneg
    have hkI : fndI s.li l i = k := hkI
    have HKI := Lib.hid hkI
    rw [hkI] at HF
    clear hneg hkI
    go_enter Tryz.func31, Tryz.ntmps31
    go_wp2_with fail
    refine HF.out.mono ?_
    rintro e w1 ⟨rfl, rfl⟩
    go_wp2_with fail
    refine CQ.out.mono ?_
    rintro e w2 ⟨rfl, G2, hq2, hk2, hg2⟩
    have K2 := Lib.hid hk2
    have G2F := Lib.hid hg2
    have Q2 := Lib.hid hq2
    clear hk2 hg2 hq2 CQ HF
    go_wp2_with fail
    refine ((rm_ct 1000 (by omega)).1 w2 G2 q _ nl (nc + 1) w1.heap.size X k Q2.out K2.out.size hnl (by omega) (show s.li.length ≤ 1000 by omega) (HC.out.cnt _ _ _) hk).mono ?_
    rintro e w3 ⟨v, o, s', rfl, hr, ho, hq3, hf3⟩
    have hlt := hr.lt
    have hlt : s'.li.length < s.li.length := hlt
    have hz := K2.out.size
    have HRM : Hid (AgR l i drpC s s' o 0) := Lib.hid (.inr ⟨k, HKI.out, hr, rfl⟩)
    have HO := Lib.hid ho
    have QQ := Lib.hid (QM.trans K2.out G2F.out hq3)
    have FF := Lib.hid hf3
    obtain ⟨A5, c5, rfl, -, -, -⟩ := own_shape ho
    clear hr ho hq3 hf3
    go_wp2_with fail
    go_ret2
    exact ⟨_, s', o, 0, nc + 1, rfl, HRM.out, HO.out, QQ.out.toN, by omega, fun g hg => Nat.le_trans hz (FF.out g hg)⟩
set_option maxRecDepth 100000 in
set_option maxHeartbeats 3200000 in
theorem goneQ_any (w : World) (G : List Nat) (q : Nat) (s : Pl) (nl nc : Nat) (h : QR w G q s nl nc) (hnl : nl ≤ 1000) (hnc : nc + s.li.length ≤ 1000) (X : Rn → Prop) (c : Core X s) (l : Int) :
    Calls Tryz.prog 32 #[.pointer (some ⟨q, 0, none⟩), .int .i64 l] w fun e w' =>
      ∃ v s' o, e = .returned v ∧ GoR l s s' o ∧ w'.ownsRow 0 3 1 v o.length (zs o) ∧ QN w w' G q s' nl nc ∧ s'.li.length ≤ s.li.length ∧ ∀ g ∈ fp v, w.heap.size ≤ g := by
  have HR := Lib.hid h
  have HQ := Lib.hid h.toB
  have HC := Lib.hid c
  obtain ⟨LV, C, A1, A2, A3, c1, c2, c3, h, hb1, hb2⟩ := h
  have LQ := Lib.hid (lineQ_any w q A1 LV c1 l (h.b.cell 0) (AtV.of_own h.o1 (by omega)))
  have hli := h.line l
  have hid := c.id
  clear h c
  by_cases h0 : l = 0
  · subst h0
    have HE : Hid (GoR 0 s s []) := Lib.hid (.inl ⟨.inl rfl, rfl, rfl⟩)
    clear hli hid LQ
    go_enter Tryz.func32, Tryz.ntmps32
    go_wp2_with fail
    go_ret
    exact ⟨_, s, [], rfl, HE.out, World.ownsRow_nil _ _ _ _, QN.same HR.out (Keeps.refl _ _), Nat.le_refl _, by simp⟩
  rcases hli with ⟨e1, e2⟩ | ⟨k, hk, n, e1, -, e2, -⟩
  · rw [e1] at LQ
    have HE : Hid (GoR l s s []) := Lib.hid (.inl ⟨.inr e2, rfl, rfl⟩)
    clear e1 e2 hid
    go_enter Tryz.func32, Tryz.ntmps32
    go_wp2_with fail
    refine LQ.out.mono ?_
    rintro e w1 ⟨rfl, rfl⟩
    go_wp2_with fail
    go_ret
    exact ⟨_, s, [], rfl, HE.out, World.ownsRow_nil _ _ _ _, QN.same HR.out (Keeps.refl _ _), Nat.le_refl _, by simp⟩
  · rw [e1] at LQ
    have hl0 : 0 < l := by have := (hid l n e2).1; omega
    have HS : Hid ((s.ln l).isSome = true) := Lib.hid (by rw [e2]; rfl)
    have kn : ¬ (k : Int) < 0 := by omega
    have kb : (l == 0) = false := by simpa using h0
    have kd : decide ((k : Int) < 0) = false := by simp
    clear e1 e2 hid
    go_enter Tryz.func32, Tryz.ntmps32
    go_wp2_with fail
    refine LQ.out.mono ?_
    rintro e w1 ⟨rfl, rfl⟩
    go_wp2_with fail
    refine ((rm_ct 1000 (by omega)).2 w1 G q s nl nc w1.heap.size X l HQ.out (Nat.le_refl _) hnl (by omega) (by omega) HC.out hl0 HS.out).mono ?_
    rintro e w3 ⟨v, o, s', rfl, hr, ho, hq3, hf3⟩
    have hlen := hr.len
    have HRM : Hid (GoR l s s' o) := Lib.hid (.inr ⟨h0, HS.out, hr⟩)
    have HO := Lib.hid ho
    have QQ := Lib.hid hq3
    have FF := Lib.hid hf3
    obtain ⟨A5, c5, rfl, -, -, -⟩ := own_shape ho
    clear hr ho hq3 hf3
    go_wp2_with fail
    go_ret
    exact ⟨_, s', o, rfl, HRM.out, HO.out, QQ.out.toN, by omega, FF.out⟩
end Go.Proofs.YtcopjjokhjealaaGreat
