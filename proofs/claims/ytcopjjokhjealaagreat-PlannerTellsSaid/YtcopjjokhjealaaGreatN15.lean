/- The reference: Committed. -/
import Derived.Test.YtcopjjokhjealaaGreatN14
namespace Go.Proofs.YtcopjjokhjealaaGreat
open Go.RowKit

noncomputable def cm12C : Code := ((Tryz.f29.body.bind (theRegion 12)).getD .skip)
set_option maxRecDepth 1000000 in
set_option maxHeartbeats 1600000 in
theorem cm12_any (w : World) (q g1 o1 g2 o2 n1 n2 c1 c2 k j : Nat) (y z : Int) (K : Exit → Act → World → Prop) (hj : j < n1) (hk : k < n2) (a0 : w.cell? ⟨q, 0, none⟩ = some (.slice (some ⟨g1, o1, none⟩) n1 c1)) (a1 : w.cell? ⟨q, 1, none⟩ = some (.slice (some ⟨g2, o2, none⟩) n2 c2))
    (d1 : w.cell? ⟨g1, o1 + j * 4 + 1, none⟩ = some (.int .i64 y)) (d2 : w.cell? ⟨g2, o2 + k * 4 + 2, none⟩ = some (.int .i64 z))
    (u1 u2 u3 u4 u5 u6 u7 u8 u9 u11 u13 u14 u15 u16 u17 u18 u19 u20 u21 u22 u23 u24 u25 u26 u27 u28 u29 u30 u31 u32 u33 u34 u35 u36 u37 u38 u39 u40 u41 u42 u43 u44 u45 u46 u47 u48 u49 u50 u51 u52 u53 u54 u55 u56 u57 u58 u59 u60 u61 u62 u63 u64 u65 u66 u67 u68 u69 u70 u71 u72 u73 u74 u75 u76 u77 u78 u79 u80 u81 u82 u83 u84 u85 u86 u87 u88 u89 u90 u91 u92 u93 u94 u95 u96 u97 u98 u99 u100 u101 u102 u103 u104 u105 u106 u107 u108 u109 u110 u111 u112 u113 u114 u115 u116 u117 u118 u119 u120 u121 u122 u123 u124 u125 u126 u127 u128 u129 u130 u131 u132 u133 u134 u135 u136 u137 u138 u139 u140 u141 u142 u143 u144 u145 u146 u147 u148 u149 u150 u151 u152 u153 u154 u155 u156 u157 u158 u159 u160 u161 u162 u163 u164 u165 u166 u167 u168 : Value)
    (hK : ∀ (v70 v71 v72 v73 v74 v75 v76 v77 v78 v79 v80 v81 v82 v83 v84 v85 : Value) (nq : Nat) (b0 : Value), b0 = .bool (decide (y = z)) → K .normal ⟨#[.pointer (some ⟨q, 0, none⟩), u1, u2, u3, u4, u5, u6, u7, u8, u9, .int .i64 k, u11, .int .i64 j, u13, u14, u15, u16, u17, u18, u19, u20, u21, u22, u23, u24, u25, u26, u27, u28, u29, u30, u31, u32, u33, u34, u35, u36, u37, u38, u39, u40, u41, u42, u43, u44, u45, u46, u47, u48, u49, u50, u51, u52, u53, u54, u55, u56, u57, u58, u59, u60, u61, u62, u63, u64, u65, u66, u67, u68, u69, v70, v71, v72, v73, v74, v75, v76, v77, v78, v79, v80, v81, v82, v83, v84, v85, b0, u87, u88, u89, u90, u91, u92, u93, u94, u95, u96, u97, u98, u99, u100, u101, u102, u103, u104, u105, u106, u107, u108, u109, u110, u111, u112, u113, u114, u115, u116, u117, u118, u119, u120, u121, u122, u123, u124, u125, u126, u127, u128, u129, u130, u131, u132, u133, u134, u135, u136, u137, u138, u139, u140, u141, u142, u143, u144, u145, u146, u147, u148, u149, u150, u151, u152, u153, u154, u155, u156, u157, u158, u159, u160, u161, u162, u163, u164, u165, u166, u167, u168], []⟩ (w.drewN nq)) :
    Code.wp Tryz.prog cm12C K ⟨#[.pointer (some ⟨q, 0, none⟩), u1, u2, u3, u4, u5, u6, u7, u8, u9, .int .i64 k, u11, .int .i64 j, u13, u14, u15, u16, u17, u18, u19, u20, u21, u22, u23, u24, u25, u26, u27, u28, u29, u30, u31, u32, u33, u34, u35, u36, u37, u38, u39, u40, u41, u42, u43, u44, u45, u46, u47, u48, u49, u50, u51, u52, u53, u54, u55, u56, u57, u58, u59, u60, u61, u62, u63, u64, u65, u66, u67, u68, u69, u70, u71, u72, u73, u74, u75, u76, u77, u78, u79, u80, u81, u82, u83, u84, u85, u86, u87, u88, u89, u90, u91, u92, u93, u94, u95, u96, u97, u98, u99, u100, u101, u102, u103, u104, u105, u106, u107, u108, u109, u110, u111, u112, u113, u114, u115, u116, u117, u118, u119, u120, u121, u122, u123, u124, u125, u126, u127, u128, u129, u130, u131, u132, u133, u134, u135, u136, u137, u138, u139, u140, u141, u142, u143, u144, u145, u146, u147, u148, u149, u150, u151, u152, u153, u154, u155, u156, u157, u158, u159, u160, u161, u162, u163, u164, u165, u166, u167, u168], []⟩ w := by
  have i0 : (0 : Int) ≤ (k : Int) := by omega
  have i1 : (k : Int) < (n2 : Int) := by omega
  have i2 : (0 : Int) ≤ (j : Int) := by omega
  have i3 : (j : Int) < (n1 : Int) := by omega
  clear hk hj
  conv => arg 2; whnf
  dsimp only at hK ⊢
  by_cases e : y = z
  · subst e
    go_quiet (fail)
    exact hK _ _ _ _ _ _ _ _ _ _ _ _ _ _ _ _ nq _ (by first | rfl | (simp; done))
  · go_quiet (fail)
    exact hK _ _ _ _ _ _ _ _ _ _ _ _ _ _ _ _ nq _ (by first | rfl | (simp; done) | (simp [e]; done))
theorem LsOK.setIt {w : World} {f : Int → Option Ln} {LV : List LnV} (h : LsOK w f LV) {k : Nat} (hk : k < LV.length) {l : Int} (el : LV[k].id = l) {n : Ln} (hn : f l = some n) {its : List Int} {b : Option Nat} {c : Nat}
    (ho : w.ownsRow 0 3 1 (.slice (b.map fun g => (⟨g, 0, none⟩ : Addr)) its.length c) its.length (zs its)) :
    LsOK w (updG f l (some ⟨n.par, n.pid, its⟩)) (LV.set k ⟨LV[k].id, LV[k].par, LV[k].pid, b, its.length, c⟩) := by
  have hp := List.pairwise_iff_getElem.1 h.as1
  have hm : (LV.set k ⟨LV[k].id, LV[k].par, LV[k].pid, b, its.length, c⟩).map (·.id) = LV.map (·.id) := by
    apply List.ext_getElem
    · simp
    · intro i h1 h2
      rw [List.getElem_map, List.getElem_map, List.getElem_set]
      by_cases e : k = i
      · subst e; rw [if_pos rfl]
      · rw [if_neg e]
  have hne : ∀ i (hi : i < LV.length), i ≠ k → LV[i].id ≠ l := fun i hi hik => by
    rw [← el]
    rcases Nat.lt_or_gt_of_ne hik with hlt | hlt
    · have := hp i k (by simpa using hi) (by simpa using hk) hlt; simp at this; omega
    · have := hp k i (by simpa using hk) (by simpa using hi) hlt; simp at this; omega
  refine ⟨by rw [hm]; exact h.as1, fun v hv => ?_, fun x hx => ?_⟩
  · obtain ⟨i, hi, rfl⟩ := List.getElem_of_mem hv
    rw [List.length_set] at hi
    rw [List.getElem_set]
    by_cases e : k = i
    · subst e
      rw [if_pos rfl]
      obtain ⟨n', g1, g2, g3, g4, -⟩ := h.ls _ (List.getElem_mem hk)
      rw [el, hn] at g1
      injection g1 with g1
      subst g1
      refine ⟨⟨n.par, n.pid, its⟩, by show updG _ _ _ LV[k].id = _; rw [el]; exact updG_same _ _ _, rfl, g3, g4, rfl, ho⟩
    · rw [if_neg e]
      obtain ⟨n', g1, g2⟩ := h.ls _ (List.getElem_mem hi)
      exact ⟨n', by rw [updG_ne _ _ (hne i hi (fun h => e h.symm))]; exact g1, g2⟩
  · rw [hm]
    by_cases e : x = l
    · rw [e, ← el]; exact List.mem_map.2 ⟨_, List.getElem_mem hk, rfl⟩
    · rw [updG_ne _ _ e] at hx; exact h.lc x hx
theorem stray_at {L : List Rn} {l : Int} {its : List Int} {k : Nat} (hk : k < L.length) (h1 : isStray l its L[k] = true) (h2 : ∀ j (hj : j < L.length), j < k → isStray l its L[j] = false) : ixF (isStray l its) L = k := ixF_at hk h1 h2
/-- The items that do not come any more go, one by one. -/
structure Sgo (l : Int) (its : List Int) (s0 s1 : Pl) (j : Nat) (o1 : List Int) : Prop where
  c : Core (StX l its) s1
  ch : ∀ s' o2, St l its s1 s' o2 → St l its s0 s' (o1 ++ o2)
  no : ∀ i (hi : i < s1.li.length), i < j → isStray l its s1.li[i] = false
  ln : o1.length + s1.li.length = s0.li.length
theorem Sgo.step {l : Int} {its : List Int} {s0 s1 s2 : Pl} {j : Nat} {o1 o : List Int} (h : Sgo l its s0 s1 j o1) (hj : j < s1.li.length) (hs : isStray l its s1.li[j] = true) (hr : Rm (.rem j) (cntS s1 l s1.li[j].i strC) s2 o) : Sgo l its s0 s2 j (o1 ++ o) := by
  have hc : Core (StX l its) (cntS s1 l s1.li[j].i strC) := h.c.cnt _ _ _
  refine ⟨hc.rm hr (fun x hx => by cases hx), fun s' o2 hc => by rw [List.append_assoc]; exact h.ch s' (o ++ o2) (.step (stray_at hj hs h.no) hj hr hc), fun i hi hij => ?_, by rw [List.length_append]; have := hr.len; have := h.ln; have e : (cntS s1 l s1.li[j].i strC).li.length = s1.li.length := rfl; omega⟩
  have hp : s2.li.take j = s1.li.take j := hr.keepPre hc
  have e : s2.li[i]? = s1.li[i]? := by
    have h1 := congrArg (fun L : List Rn => L[i]?) hp
    rw [List.getElem?_take, List.getElem?_take, if_pos hij, if_pos hij] at h1
    exact h1
  rw [List.getElem?_eq_getElem hi, List.getElem?_eq_getElem (by omega)] at e
  injection e with e
  rw [e]
  exact h.no i (by omega) hij
set_option maxRecDepth 1000000 in
set_option maxHeartbeats 25600000 in
theorem committedQ_any (w : World) (G : List Nat) (q : Nat) (s : Pl) (nl nc : Nat) (h : QR w G q s nl nc) (hnl : nl ≤ 900) (hnc : nc + s.li.length ≤ 900) (c : Core NoR s) (hi : ∀ x n, s.ln x = some n → n.it.length ≤ 1000) (Φ : Nat) (hΦ : Φ ≤ 900000) (hcp : Cap Φ s)
    (l i : Int) (A : Option Addr) (its : List Int) (ci : Nat) (hcap : its.length ≤ ci) (hz : ∀ W, Keeps [q] w W → AtZ W A its) :
    Calls Tryz.prog 29 #[.pointer (some ⟨q, 0, none⟩), .int .i64 l, .int .i64 i, .slice A its.length ci] w fun e w' =>
      ∃ v s' o en nc', e = .returned (.tuple #[v, .int .i64 en]) ∧ ComR l i its s s' o en ∧ w'.ownsRow 0 3 1 v o.length (zs o) ∧ QN w w' G q s' nl nc' ∧ nc' + s'.li.length ≤ nc + s.li.length ∧ ∀ g ∈ fp v, w.heap.size ≤ g := by
  have HR : Hid (∀ W, Keeps [] w W → QN w W G q s nl nc) := Lib.hid (fun W k => QN.same h k)
  obtain ⟨LV, C, A1, A2, A3, c1, c2, c3, h, hb1, hb2⟩ := h
  have hqw : q < w.heap.size := h.b.lt
  have f1 : w.cell? ⟨q, 1, none⟩ = some (.slice A2 s.li.length c2) := h.b.cell 1
  have RUN := Lib.hid (runQ_any w q A2 s.li c2 l i f1 (AtR.of_own h.o2 (by omega)))
  have HQ : Hid (∀ W, Keeps [] w W → QAt W G q s LV C A1 A2 A3 c1 c2 c3) := Lib.hid (fun W k => h.keep0 k)
  have HZ := Lib.hid hz
  have hzm := (hz w (Keeps.refl _ _)).mx
  have RQ : Hid (∀ W, Keeps [] w W → Calls Tryz.prog 25 #[.slice A its.length ci] W fun e w' => e = .returned (.bool (rightL its)) ∧ Keeps [] W w') := Lib.hid (fun W k => rightQ_any W A its ci hcap (hz W (k.mono (by simp))))
  have HCP := Lib.hid hcp
  have HCO := Lib.hid c
  by_cases hneg : fndI s.li l i < 0
  · have HE : Hid (ComR l i its s s [] 4) := Lib.hid (.inl ⟨hneg, rfl, rfl, rfl⟩)
    obtain ⟨I, hI⟩ : ∃ I, fndI s.li l i = I := ⟨_, rfl⟩
    rw [hI] at hneg RUN
    clear hI h hz hi c hcp f1
    go_enter Tryz.func29, Tryz.ntmps29
    go_wp2_with fail
    refine RUN.out.mono ?_
    rintro e w1 ⟨rfl, rfl⟩
    go_wp2_with fail
    go_ret2
    exact ⟨_, s, [], 4, nc, rfl, HE.out, World.ownsRow_nil _ _ _ _, HR.out _ (Keeps.refl _ _), Nat.le_refl _, by simp⟩
  obtain ⟨k, hk, hkI⟩ := ixF_lt hneg
  have hkI : fndI s.li l i = k := hkI
  obtain ⟨_, erl, eri⟩ := fnd_spec hkI
  obtain ⟨⟨n, hn, hin⟩, -⟩ := c.hm _ (List.getElem_mem hk)
  rw [erl] at hn
  have hin := hin.resolve_left (fun h => h)
  rw [eri] at hin
  rw [hkI] at RUN
  obtain ⟨y, rest, hit⟩ : ∃ y rest, n.it = y :: rest := by
    cases hq : n.it with
    | nil => rw [hq] at hin; cases hin
    | cons a b => exact ⟨a, b, rfl⟩
  have hnl2 := hi l n hn
  have COM : Hid (∀ s' o e, ComY l i its k s.li[k] n y s s' o e → ComR l i its s s' o e) := Lib.hid (fun s' o e hy => .inr ⟨k, s.li[k], n, y, hkI, List.getElem?_eq_getElem hk, hn, by rw [hit]; rfl, hy⟩)
  rcases h.line l with ⟨e1, e2⟩ | ⟨m, hm, n', e1, e2, e3, e4, e5, e6, e7, e8⟩
  · rw [hn] at e2; cases e2
  rw [hn] at e3
  injection e3 with e3
  subst e3
  have LQ := Lib.hid (lineQ_any w q A1 LV c1 l (h.b.cell 0) (AtV.of_own h.o1 (by omega)))
  rw [e1] at LQ
  obtain ⟨b1, o1, hAA, hb1l, hcc⟩ := (AtV.of_own h.o1 (show LV.length ≤ 1000000 by omega)).at_ (by omega)
  subst hAA
  obtain ⟨-, -, -, d3⟩ := hcc m hm
  have hAZ := AtZ.of_own e8 (by omega)
  obtain ⟨b2, o2, hBB, hb2l, hc2⟩ := hAZ.at_ (by rw [hit]; simp)
  have y0 : w.cell? ⟨b2, o2, none⟩ = some (.int .i64 y) := by
    have := hc2 0 (by rw [hit]; simp)
    simp only [hit, List.getElem_cons_zero, Nat.add_zero] at this
    exact this
  rw [hBB] at d3
  obtain ⟨q2, hq2⟩ : ∃ z, LV[m].n = z := ⟨_, rfl⟩
  have hq0 : 0 < q2 := by rw [← hq2, e7, hit]; simp
  rw [hq2] at d3
  obtain ⟨cq, hcq⟩ : ∃ z, LV[m].c = z := ⟨_, rfl⟩
  rw [hcq] at d3
  obtain ⟨b3, o3, hA2, hb3l, hc3⟩ := (AtR.of_own h.o2 (show s.li.length ≤ 1000000 by omega)).at_ (by omega)
  subst hA2
  obtain ⟨-, -, r2, r3⟩ := hc3 k hk
  have HT1 : Hid (1 ≤ s.li[k].t) := Lib.hid (c.t1 _ (List.getElem_mem hk))
  obtain ⟨rt, hrt⟩ : ∃ t, s.li[k].t = t := ⟨_, rfl⟩
  obtain ⟨rd, hrd⟩ : ∃ t, s.li[k].d = t := ⟨_, rfl⟩
  rw [hrt] at r2 HT1
  rw [hrd] at r3
  have HRT := Lib.hid hrt
  have HRD := Lib.hid hrd
  have HIDM := Lib.hid e2
  have f0 : w.cell? ⟨q, 0, none⟩ = some (.slice (some ⟨b1, o1, none⟩) LV.length c1) := h.b.cell 0
  have i0 : (0 : Int) ≤ (m : Int) := by omega
  have i1 : (m : Int) < (LV.length : Int) := by omega
  have i2 : max (m : Int) 0 = m := by omega
  have i3 : (0 : Int) < (q2 : Int) := by omega
  have i4 : ((q2 : Int) == 0) = false := by simp; omega
  have i5 : (0 : Int) ≤ (k : Int) := by omega
  have i6 : (k : Int) < (s.li.length : Int) := by omega
  have i7 : ¬ (k : Int) < 0 := by omega
  have HN := Lib.hid hn
  have HERI := Lib.hid (And.intro erl eri)
  clear hneg hkI erl eri hin hit hi e1 e2 e4 e5 e6 e7 e8 hcc hAZ hBB hc2 hq2 hcq hc3 hrt hrd h hz c hcp hn
  by_cases hy : y ≠ i
  · have HE := Lib.hid (COM.out s [] 25 (.inl ⟨hy, rfl, rfl, rfl⟩))
    have hyb : (y != i) = true := by simpa using hy
    clear COM RQ
    go_enter Tryz.func29, Tryz.ntmps29
    go_wp2_with fail
    refine RUN.out.mono ?_
    rintro e w1 ⟨rfl, rfl⟩
    go_wp2_with fail
    refine LQ.out.mono ?_
    rintro e w1 ⟨rfl, rfl⟩
    go_wp2_with fail
    go_ret2
    exact ⟨_, s, [], 25, nc, rfl, HE.out, World.ownsRow_nil _ _ _ _, HR.out _ (Keeps.refl _ _), Nat.le_refl _, by simp⟩
  obtain rfl : y = i := by simpa using hy
  clear hy
  cases rd with
  | false =>
    have HE := Lib.hid (COM.out s [] 7 (.inr (.inl ⟨rfl, HRD.out, rfl, rfl, rfl⟩)))
    clear COM RQ
    go_enter Tryz.func29, Tryz.ntmps29
    go_wp2_with fail
    refine RUN.out.mono ?_
    rintro e w1 ⟨rfl, rfl⟩
    go_wp2_with fail
    refine LQ.out.mono ?_
    rintro e w1 ⟨rfl, rfl⟩
    go_wp2_with fail
    go_ret2
    exact ⟨_, s, [], 7, nc, rfl, HE.out, World.ownsRow_nil _ _ _ _, HR.out _ (Keeps.refl _ _), Nat.le_refl _, by simp⟩
  | true =>
  go_enter Tryz.func29, Tryz.ntmps29
  go_wp2_with fail
  refine RUN.out.mono ?_
  rintro e w1 ⟨rfl, rfl⟩
  go_wp2_with fail
  refine LQ.out.mono ?_
  rintro e w1 ⟨rfl, rfl⟩
  go_wp2_with fail
  clear RUN LQ d3 y0 r3 i2 i3 i4
  go_loopw [12] (fun iv wr => ∃ j : Nat, j ≤ LV.length ∧ iv = .int .i64 j ∧ (∀ x (hx : x < LV.length), x < j → ¬ LV[x].par = rt) ∧ Keeps [] w1 wr) (fun iv _ => LV.length - (intOf iv).toNat)
  case atStart => exact ⟨0, by omega, rfl, fun x hx h => absurd h (by omega), Keeps.refl _ _⟩
  case round =>
    obtain ⟨j, hj, rfl, hno, kp⟩ := hrel
    have HNO := Lib.hid hno
    have KP := Lib.hid kp
    have g0 := (HQ.out wr kp).b.cell 0
    have g1 := (HQ.out wr kp).b.cell 1
    clear hno kp
    by_cases hlt : j < LV.length
    · obtain ⟨b1', o1', hAA, hbl, hcc⟩ := (AtV.of_own (HQ.out wr KP.out).o1 (show LV.length ≤ 1000000 by omega)).at_ (by omega)
      simp only [Option.some.injEq, Addr.mk.injEq, and_true] at hAA
      obtain ⟨rfl, rfl⟩ := hAA
      obtain ⟨-, d1, -, -⟩ := hcc j hlt
      have s2 : wr.cell? ⟨b3, o3 + k * 4 + 2, none⟩ = some (.int .i64 rt) := (KP.out.cell (p := ⟨b3, o3 + k * 4 + 2, none⟩) hb3l (by simp)).trans r2
      obtain ⟨z, hz⟩ : ∃ z, LV[j].par = z := ⟨_, rfl⟩
      rw [hz] at d1
      have HZZ := Lib.hid hz
      have j0 : (0 : Int) ≤ (j : Int) := by omega
      have j1 : (j : Int) < (LV.length : Int) := by omega
      clear hcc hz
      go_upto_region 12 with fail
      refine cm12_any wr q b1 o1 b3 o3 LV.length s.li.length c1 c2 k j z rt _ hlt hk g0 g1 d1 s2 _ _ _ _ _ _ _ _ _ _ _ _ _ _ _ _ _ _ _ _ _ _ _ _ _ _ _ _ _ _ _ _ _ _ _ _ _ _ _ _ _ _ _ _ _ _ _ _ _ _ _ _ _ _ _ _ _ _ _ _ _ _ _ _ _ _ _ _ _ _ _ _ _ _ _ _ _ _ _ _ _ _ _ _ _ _ _ _ _ _ _ _ _ _ _ _ _ _ _ _ _ _ _ _ _ _ _ _ _ _ _ _ _ _ _ _ _ _ _ _ _ _ _ _ _ _ _ _ _ _ _ _ _ _ _ _ _ _ _ _ _ _ _ _ _ _ _ _ _ _ _ _ _ _ _ _ _ _ _ _ _ _ _ _ _ _ ?_
      intro v70 v71 v72 v73 v74 v75 v76 v77 v78 v79 v80 v81 v82 v83 v84 v85 nq b0 hb0
      subst hb0
      by_cases e : z = rt
      · have e' : decide (z = rt) = true := by simpa using e
        rw [e']
        have hnw : ¬ IsW s s.li[k].t [] := by
          intro hw
          have hh := HQ.out w1 (Keeps.refl _ _)
          obtain ⟨n', g1, g2, g3, -⟩ := hh.ls _ (List.getElem_mem hlt)
          have h0 := (HCO.out.id _ _ g1).1
          have hne : LV[j].id ≠ 0 := fun e0 => by
            obtain ⟨zz, hz1, hz2⟩ := HCO.out.z
            rw [e0, hz1] at g1
            injection g1 with g1
            subst g1
            have := HT1.out
            rw [HZZ.out] at g3
            omega
          have := (hw.2 LV[j].id).2 ⟨by omega, n', g1, by rw [← g3, HZZ.out, HRT.out, e]⟩
          cases this
        have HE := Lib.hid (COM.out s [] 8 (.inr (.inr (.inl ⟨rfl, HRD.out, hnw, rfl, rfl, rfl⟩))))
        clear hnw
        have QQ := Lib.hid (HR.out _ (KP.out.drewN nq))
        clear COM RQ HZZ
        go_wp2_with fail
        go_ret2
        exact ⟨_, s, [], 8, nc, rfl, HE.out, World.ownsRow_nil _ _ _ _, QQ.out, Nat.le_refl _, by simp⟩
      · have e' : decide (z = rt) = false := by simpa using e
        rw [e']
        go_wp2_with fail
        go_roundw
        case rel =>
          refine ⟨j + 1, by omega, by go_num, fun x hx hxj => ?_, KP.out.drewN nq⟩
          by_cases ex : x = j
          · subst ex; rw [HZZ.out]; exact e
          · exact HNO.out x hx (by omega)
        case measure => simp [intOf]; omega
    · obtain rfl : j = LV.length := by omega
      have HW : Hid (IsW s rt []) := Lib.hid ⟨List.Pairwise.nil, fun x => ⟨(fun h => by cases h), fun ⟨h0, n', h1, h2⟩ => by
        have hh := HQ.out w1 (Keeps.refl _ _)
        obtain ⟨v, hv, rfl⟩ := List.mem_map.1 (hh.lc x (by rw [h1]; rfl))
        obtain ⟨z, hz, rfl⟩ := List.getElem_of_mem hv
        obtain ⟨n2, g1, g2, g3, -⟩ := hh.ls _ (List.getElem_mem hz)
        rw [h1] at g1
        injection g1 with g1
        subst g1
        exact absurd (by rw [g3, h2]) (HNO.out z hz hz)⟩⟩
      have RR := Lib.hid (RQ.out wr KP.out)
      have QQ : Hid (∀ W, Keeps [] wr W → QN w1 W G q s nl nc) := Lib.hid (fun W kW => HR.out W (KP.out.trans kW (by simp)))
      clear HNO hlt g1
      cases hr : rightL its with
      | false =>
        have HE := Lib.hid (COM.out s [] 1 (.inr (.inr (.inr (.inl ⟨rfl, HRD.out, by rw [HRT.out]; exact HW.out, hr, rfl, rfl, rfl⟩)))))
        rw [hr] at RR
        clear COM RQ hr
        go_wp2_with fail
        refine RR.out.mono ?_
        rintro e w2 ⟨rfl, k2⟩
        have Q2 := Lib.hid (QQ.out w2 k2)
        clear k2
        go_wp2_with fail
        go_ret2
        exact ⟨_, s, [], 1, nc, rfl, HE.out, World.ownsRow_nil _ _ _ _, Q2.out, Nat.le_refl _, by simp⟩
      | true =>
      have CY : Hid (∀ s' o, St l its (setIt (cntS (takeOut s k) l y comC) l n its) s' o → ComR l y its s s' o 0) := Lib.hid (fun s' o hst => COM.out s' o 0 (.inr (.inr (.inr (.inr ⟨rfl, HRD.out, by rw [HRT.out]; exact HW.out, hr, hst, rfl⟩)))))
      have HRL := Lib.hid hr
      rw [hr] at RR
      clear COM RQ hr
      go_wp2_with fail
      refine RR.out.mono ?_
      rintro e w2 ⟨rfl, k2⟩
      have K2 : Hid (Keeps [] w1 w2) := Lib.hid (KP.out.trans k2 (by simp))
      have HQ2 : Hid (∀ W, Keeps [] w2 W → QAt W G q s LV C (some ⟨b1, o1, none⟩) (some ⟨b3, o3, none⟩) A3 c1 c2 c3) := Lib.hid (fun W kW => HQ.out W (K2.out.trans kW (by simp)))
      have HRD2 : Hid (∀ W, Keeps [] w2 W → Reads W W.heap.size 4 (some ⟨b3, o3, none⟩) s.li.length (rw rcs s.li)) := Lib.hid (fun W kW => reads_own (HQ2.out W kW).o2)
      obtain ⟨_, _, hv, hcl2, -, -⟩ := own_shape (HQ2.out w2 (Keeps.refl _ _)).o2
      obtain rfl : c2 = _ := by injection hv
      have hq2 : q < w2.heap.size := (HQ2.out w2 (Keeps.refl _ _)).b.lt
      clear k2 HQ RR QQ g0 KP r2 hv
      go_upto_region 16 with fail
      refine com16q_any w2 q s.li.length k (k + 1) c2 (s.li.length - (k + 1)) (c2 - (k + 1)) (s.li.length - 1) (some ⟨b3, o3, none⟩) _ ((rw rcs s.li).take (k * 4)) ((rw rcs s.li).drop ((k + 1) * 4)) _ (by omega) (by omega) (by omega) (by omega)
        (fun W kW => (HQ2.out W kW).b.cell 1) (fun W kW => (HQ2.out W kW).b.frozen 1) (run_take58 _ _ _ k (by omega) (by omega)) (run_drop58 _ _ _ (k + 1) (by omega)) (fun W kW => (HRD2.out W kW).take (by omega)) (fun W kW => (HRD2.out W kW).cut (by omega) (by omega))
        (fun u hu => rw_one rcs_one _ u (List.mem_of_mem_take hu)) (fun u hu => rw_one rcs_one _ u (List.mem_of_mem_drop hu)) (by rw [IntKind.wrap_i64]; omega) _ _ _ _ _ _ _ _ _ _ _ _ _ _ _ _ _ _ _ _ _ _ _ _ _ _ _ _ _ _ _ _ _ _ _ _ _ _ _ _ _ _ _ _ _ _ _ _ _ _ _ _ _ _ _ _ _ _ _ _ _ _ _ _ _ _ _ _ _ _ _ _ _ _ _ _ _ _ _ _ _ _ _ _ _ _ _ _ _ _ _ _ _ _ _ _ _ _ _ _ _ _ _ _ _ _ _ _ _ _ _ _ _ _ _ _ _ _ _ _ _ _ _ _ _ _ _ _ _ _ _ _ _ _ _ _ _ _ _ _ _ _ _ _ _ _ _ _ _ _ _ _ _ _ _ _ _ _ _ _ _ _ _ _ _ _ _ ?_
      intro v90 v91 v92 v93 v94 v95 v96 v97 v98 v99 v100 v101 v102 v103 v104 v105 v106 v107 v108 v3 W4 ho hk4 hf4
      have elen : (s.li.eraseIdx k).length = s.li.length - 1 := by rw [List.length_eraseIdx]; simp [hk]
      have HO4 : Hid (W4.ownsRow 0 69 4 v3 (takeOut s k).li.length (rw rcs (takeOut s k).li)) := Lib.hid (by
        show W4.ownsRow 0 69 4 v3 (s.li.eraseIdx k).length (rw rcs (s.li.eraseIdx k))
        rw [elen, ← rw_erase]
        have := ho
        rw [List.nil_append] at this
        exact this)
      have hf5 := hf4
      obtain ⟨A4, c4, rfl, -, -, -⟩ := own_shape HO4.out
      obtain ⟨G1, hG1, hs1⟩ := (HQ2.out W4 hk4).putR (s' := takeOut s k) HO4.out (w := w2) hf5 hq2 rfl rfl
      have K4 : Hid (Keeps [q] w2 (W4.setCell ⟨q, 1, none⟩ (.slice A4 (takeOut s k).li.length c4))) := Lib.hid ((hk4.mono (by simp)).setCell (.inl (by simp)) _)
      obtain ⟨W1, hW1⟩ : ∃ W, W4.setCell ⟨q, 1, none⟩ (.slice A4 (takeOut s k).li.length c4) = W := ⟨_, rfl⟩
      rw [hW1] at hG1 K4 ⊢
      have HG1 := Lib.hid hG1
      have HS1 := Lib.hid hs1
      have CC := Lib.hid (HCP.out)
      clear hW1 hG1 hs1 ho hk4 hf4 hf5 HO4 HRD2 HQ2
      obtain ⟨M, hM1, hM2⟩ := CC.out
      have HM1 : Hid (CapM M (takeOut s k).ct) := Lib.hid hM1
      clear hM1 CC
      go_wp2_with fail
      refine (countQ_any W1 G1 q (takeOut s k) LV C _ _ _ _ _ _ HG1.out (by omega) ⟨l, y, 0, 1, 0, 0, 0⟩ M (by omega) HM1.out ⟨by simp, by simp, by simp, by simp, by simp⟩).mono ?_
      rintro e w5 ⟨rfl, G5, C5, A5, c5, hq5, hl5, kk5, hg5⟩
      have HQ5 : Hid (∀ W, Keeps [] w5 W → QAt W G5 q (cntS (takeOut s k) l y comC) LV C5 (some ⟨b1, o1, none⟩) A4 A5 c1 c4 c5) := Lib.hid (fun W kW => (show QAt w5 _ _ (cntS (takeOut s k) l y comC) _ _ _ _ _ _ _ _ from hq5).keep0 kW)
      have K5 : Hid (Keeps [q] w1 w5) := Lib.hid (((K2.out.mono (by simp)).trans K4.out (fun g hg => .inl hg)).trans kk5 (fun g hg => .inl hg))
      have hz24 := K4.out.size
      have hz12 := K2.out.size
      have HG5 : Hid (∀ g ∈ G5, g ∈ G ∨ w1.heap.size ≤ g) := Lib.hid (fun g hg => (hg5 g hg).elim (fun h => (HS1.out g h).imp_right (fun h => by omega)) (fun h => .inr (by omega)))
      have hqw5 : q < w5.heap.size := (HQ5.out w5 (Keeps.refl _ _)).b.lt
      have f05 := (HQ5.out w5 (Keeps.refl _ _)).b.cell 0
      have HI56 := Lib.hid info56
      have HI3 := Lib.hid info3
      have KA : Hid (Keeps [] w5 (w5.alloc (.cells #[] 56))) := Lib.hid ((Keeps.refl [] w5).alloc _)
      have HE5 : Hid ((w5.alloc (.cells #[] 56)).ownsRow 0 56 4 (.slice (some ⟨w5.heap.size, 0, none⟩) 0 0) 0 []) := Lib.hid (own_of_blk (Blk.new w5 56 #[]) (by omega) (by omega) rfl rfl)
      clear hq5 kk5 hg5 HG1 HS1
      go_wp2_with (at_builtin; refine wpList_app _ rfl (.tmp 114) (.tmp 118) _ rfl 56 (.agg #[.int .i64 0, .int .i64 0, .int .i64 0, .slice none 0 0]) 4 48 Tryz.underlying62 HI56.out rfl (by omega) (.slice (some ⟨w5.heap.size, 0, none⟩) 0 0) 0 [] rfl HE5.out _ _ _ _ (rw lcs LV) rfl (reads_own (HQ5.out _ KA.out).o1) (rw_one lcs_one _) (by unfold maxLen; omega) (by omega) ?_)
      intro vl w6 ol kl fl
      have OL := Lib.hid ol
      have K6 : Hid (Keeps [] w5 w6) := Lib.hid (KA.out.trans kl (fun g hg => .inr (by simp at hg; omega)))
      have FL : Hid (∀ g ∈ fp vl, w5.heap.size ≤ g) := Lib.hid (fun g hg => (fl g hg).elim (fun h => by omega) (fun h => by omega))
      obtain ⟨Al, cl, rfl, -, -, hAl⟩ := own_shape OL.out
      obtain ⟨gl, rfl⟩ := hAl (by omega)
      have KB : Hid (Keeps [] w6 (w6.alloc (.cells #[] 3))) := Lib.hid ((Keeps.refl [] w6).alloc _)
      have HE6 : Hid ((w6.alloc (.cells #[] 3)).ownsRow 0 3 1 (.slice (some ⟨w6.heap.size, 0, none⟩) 0 0) 0 []) := Lib.hid (own_of_blk (Blk.new w6 3 #[]) (by omega) (by omega) rfl rfl)
      have HZ6 := Lib.hid (HZ.out _ ((K5.out.trans K6.out (by simp)).trans KB.out (by simp)))
      clear ol kl fl KA HE5 f05
      go_wp2_with (at_builtin; refine wpList_app _ rfl (.tmp 122) (.tmp 123) _ rfl 3 (.int .i64 0) 1 8 Tryz.underlying22 HI3.out rfl (by omega) (.slice (some ⟨w6.heap.size, 0, none⟩) 0 0) 0 [] rfl HE6.out _ A _ _ (zs its) rfl (reads_z HZ6.out) (zs_one _) (by unfold maxLen; omega) (by omega) ?_)
      intro vi w7 oi ki fi
      have OI := Lib.hid (show w7.ownsRow 0 3 1 vi its.length (zs its) by simpa using oi)
      have K7 : Hid (Keeps [] w6 w7) := Lib.hid (KB.out.trans ki (fun g hg => .inr (by simp at hg; omega)))
      have FI : Hid (∀ g ∈ fp vi, w6.heap.size ≤ g) := Lib.hid (fun g hg => (fi g hg).elim (fun h => by omega) (fun h => by omega))
      obtain ⟨Ai, ci2, rfl, -, -, -⟩ := own_shape OI.out
      obtain ⟨bi, rfl⟩ := fpmap OI.out
      have OL7 := Lib.hid (own_keep OL.out K7.out (by simp))
      have gl6 : gl < w6.heap.size := own_lt OL.out (by simp)
      have hz56 := K6.out.size
      have hz67 := K7.out.size
      have fcell := own_cell (j := m * 4 + 3) (u := .slice (LV[m].b.map fun g => (⟨g, 0, none⟩ : Addr)) LV[m].n LV[m].c) OL7.out (by rw [rw_at lcs_len4 hm (by omega)]; rfl)
      have ffr := own_free OL7.out (m * 4 + 3)
      have OL8 := Lib.hid (own_set OL7.out (m * 4 + 3) (.slice (bi.map fun g => (⟨g, 0, none⟩ : Addr)) its.length ci2))
      have e8 : rw lcs (LV.set m ⟨LV[m].id, LV[m].par, LV[m].pid, bi, its.length, ci2⟩) = (rw lcs LV).set (m * 4 + 3) (.slice (bi.map fun g => (⟨g, 0, none⟩ : Addr)) its.length ci2) := rw_set1 lcs_len4 hm (by omega) rfl
      rw [← e8] at OL8
      have KS : Hid (Keeps [] w5 (w7.setCell ⟨gl, m * 4 + 3, none⟩ (.slice (bi.map fun g => (⟨g, 0, none⟩ : Addr)) its.length ci2))) := Lib.hid ((K6.out.trans K7.out (by simp)).setCell (.inr (FL.out gl (by simp))) _)
      have OIS := Lib.hid (own_far (p := ⟨gl, m * 4 + 3, none⟩) OI.out (fun hg => by have := FI.out gl hg; omega) (.slice (bi.map fun g => (⟨g, 0, none⟩ : Addr)) its.length ci2))
      have QS := (HQ5.out _ KS.out)
      have fqs := QS.b.frozen 0
      have fcs := QS.b.cell 0
      obtain ⟨Wt, hWt⟩ : ∃ W, w7.setCell ⟨gl, m * 4 + 3, none⟩ (.slice (bi.map fun g => (⟨g, 0, none⟩ : Addr)) its.length ci2) = W := ⟨_, rfl⟩
      obtain ⟨LW, hLW⟩ : ∃ L, LV.set m ⟨LV[m].id, LV[m].par, LV[m].pid, bi, its.length, ci2⟩ = L := ⟨_, rfl⟩
      have hLWl : LW.length = LV.length := by rw [← hLW, List.length_set]
      have HLS : Hid (LsOK Wt (setIt (cntS (takeOut s k) l y comC) l n its).ln LW) := Lib.hid (by rw [← hLW, ← hWt]; exact QS.lsOK.setIt hm HIDM.out HN.out OIS.out)
      rw [hLW] at OL8
      rw [hWt] at OL8 KS OIS QS fqs fcs
      have HQS := Lib.hid QS
      clear oi ki fi OL KB HE6 HZ6 e8 QS hLW OI OL7
      go_wp2_with fail
      try rw [hWt]
      obtain ⟨G6, hG6, hs6⟩ := HQS.out.putL (s' := setIt (cntS (takeOut s k) l y comC) l n its) (w := w5) (LV' := LW) (A' := some ⟨gl, 0, none⟩) (c' := cl) (by rw [hLWl]; exact OL8.out) (by rw [hLWl]; exact FL.out) hqw5 rfl rfl HLS.out
      rw [hLWl] at hG6
      have HG6 := Lib.hid hG6
      have HS6 := Lib.hid hs6
      obtain ⟨s0, hs0⟩ : ∃ s0, setIt (cntS (takeOut s k) l y comC) l n its = s0 := ⟨_, rfl⟩
      have K8 : Hid (Keeps [q] w1 (Wt.setCell ⟨q, 0, none⟩ (.slice (some ⟨gl, 0, none⟩) LV.length cl))) := Lib.hid ((K5.out.trans KS.out (by simp)).setCell (.inl (by simp)) _)
      obtain ⟨W8, hW8⟩ : ∃ W, Wt.setCell ⟨q, 0, none⟩ (.slice (some ⟨gl, 0, none⟩) LV.length cl) = W := ⟨_, rfl⟩
      have hz85 : w1.heap.size ≤ w5.heap.size := K5.out.size
      rw [hs0, hW8] at HG6
      rw [hW8] at K8 ⊢
      have QB8 : Hid (QB W8 G6 q s0 nl (nc + 1) W8.heap.size) := Lib.hid (QR.toB ⟨_, _, _, _, _, _, _, _, HG6.out, by omega, by omega⟩)
      have HG8 : Hid (∀ g ∈ G6, g ∈ G ∨ w1.heap.size ≤ g) := Lib.hid (fun g hg => (HS6.out g hg).elim (HG5.out g) (fun h => .inr (Nat.le_trans hz85 h)))
      have e0 : s0.li.length = s.li.length - 1 := by rw [← hs0]; exact elen
      have CO8 : Hid (Core (StX l its) s0) := Lib.hid (by
        rw [← hs0]
        refine ((HCO.out.take k).cnt _ _ _).setIt (X := StX l its) HN.out HRL.out (fun r hr hrl => ?_)
        by_cases hx : r.i ∈ its
        · exact .inr hx
        · refine .inl ?_
          unfold StX isStray
          simp [hrl, hx])
      have CP8 : Hid (Cap Φ s0) := Lib.hid (by
        rw [← hs0]
        refine ⟨M + 1, HM1.out.add l y comC_ok, ?_⟩
        show M + 1 + (s.li.eraseIdx k).length ≤ Φ
        omega)
      have SG8 : Hid (Sgo l its s0 s0 0 []) := Lib.hid ⟨CO8.out, fun s' o2 h => h, fun i hi h => absurd h (by omega), by simp⟩
      rw [hs0] at CY
      obtain ⟨B, hB⟩ : ∃ B, W8.heap.size = B := ⟨_, rfl⟩
      rw [hB] at QB8
      have hB1 : w1.heap.size ≤ B := by rw [← hB]; exact K8.out.size
      clear hG6 hs6 HG6 HS6 hs0 hWt hW8 HQS OL8 KS OIS fqs fcs fcell ffr HLS K5 K6 K7 K4 K2 HQ5 HG5 f0 hLWl FL FI HM1 hM2
      go_loopw [14, 15] (fun ov nv wz => ∃ (j : Nat) (s1 : Pl) (o1 : List Int) (G1 : List Nat) (nc1 : Nat), nv = .int .i64 j ∧ j ≤ s1.li.length ∧ Sgo l its s0 s1 j o1 ∧ wz.ownsRow 0 3 1 ov o1.length (zs o1) ∧ QB wz G1 q s1 nl nc1 B ∧ Cap Φ s1 ∧ nc1 + s1.li.length ≤ nc + s.li.length ∧
        Keeps [q] w1 wz ∧ (∀ g ∈ G1, g ∈ G ∨ w1.heap.size ≤ g) ∧ (∀ g ∈ fp ov, B ≤ g) ∧ B ≤ wz.heap.size) (fun ov nv _ => s0.li.length - lenV ov - (intOf nv).toNat)
      case atStart => exact ⟨0, s0, [], G6, nc + 1, rfl, by omega, SG8.out, World.ownsRow_nil _ _ _ _, QB8.out, CP8.out, by omega, K8.out, HG8.out, by simp, by omega⟩
      case round =>
        obtain ⟨j, s1, o1, G1, nc1, rfl, hj, hgo, ho, hq, hcp, hnc1, kp, hG, hf, hBw⟩ := hrel
        have HGO := Lib.hid hgo
        have HO := Lib.hid ho
        have HQ := Lib.hid hq
        have HCP1 := Lib.hid hcp
        have KZ := Lib.hid kp
        have HGG := Lib.hid hG
        have HF := Lib.hid hf
        have hln := hgo.ln
        have hqz := hq.lt
        obtain ⟨Ao, co, rfl, -, -, -⟩ := own_shape ho
        obtain ⟨A2', c2', f1', hat⟩ := hq.run (by omega)
        have HAT := Lib.hid hat
        clear hgo ho hq hcp kp hG hf hat SG8 QB8 CP8 K8 HG8
        by_cases hlt : j < s1.li.length
        · obtain ⟨b9, o9, hAA, hbl, hcc⟩ := HAT.out.at_ (by omega)
          subst hAA
          obtain ⟨d0, d1, d2, d3⟩ := hcc j hlt
          obtain ⟨x, hx⟩ : ∃ x, s1.li[j] = x := ⟨_, rfl⟩
          rw [hx] at d0 d1 d2 d3
          have HX := Lib.hid hx
          have j0 : (0 : Int) ≤ (j : Int) := by omega
          have j1 : (j : Int) < (s1.li.length : Int) := by omega
          clear hcc hx
          have KA : Hid (Keeps [] wr (wr.alloc (.cells #[.int .i64 x.l, .int .i64 x.i, .int .i64 x.t, .bool x.d] 69))) := Lib.hid ((Keeps.refl [] wr).alloc _)
          have HAS : Hid (Calls Tryz.prog 55 #[.slice A its.length ci, .int .i64 x.i] (wr.alloc (.cells #[.int .i64 x.l, .int .i64 x.i, .int .i64 x.t, .bool x.d] 69)) fun e w' => e = .returned (.bool (decide (x.i ∈ its))) ∧ w' = (wr.alloc (.cells #[.int .i64 x.l, .int .i64 x.i, .int .i64 x.t, .bool x.d] 69))) := Lib.hid (has_any _ A its ci x.i (HZ.out _ (KZ.out.trans KA.out (by simp))))
          have NX : Hid (isStray l its x = false → ∀ i (hi : i < s1.li.length), i < j + 1 → isStray l its s1.li[i] = false) := Lib.hid (fun hs i hi hij => by
            by_cases e : i = j
            · subst e; rw [HX.out]; exact hs
            · exact HGO.out.no i hi (by omega))
          have NEXT : Hid (isStray l its x = false → Sgo l its s0 s1 (j + 1) o1) := Lib.hid (fun hs => ⟨HGO.out.c, HGO.out.ch, NX.out hs, HGO.out.ln⟩)
          have OA := Lib.hid (own_keep HO.out KA.out (by simp))
          have QA := Lib.hid (HQ.out.keep0 KA.out)
          have KK : Hid (Keeps [q] w1 (wr.alloc (.cells #[.int .i64 x.l, .int .i64 x.i, .int .i64 x.t, .bool x.d] 69))) := Lib.hid (KZ.out.trans KA.out (by simp))
          have BA : Hid (Blk (wr.alloc (.cells #[.int .i64 x.l, .int .i64 x.i, .int .i64 x.t, .bool x.d] 69)) wr.heap.size 69 #[.int .i64 x.l, .int .i64 x.i, .int .i64 x.t, .bool x.d]) := Lib.hid (Blk.new _ _ _)
          have hBz : B ≤ (wr.alloc (.cells #[.int .i64 x.l, .int .i64 x.i, .int .i64 x.t, .bool x.d] 69)).heap.size := by rw [show (wr.alloc (.cells #[.int .i64 x.l, .int .i64 x.i, .int .i64 x.t, .bool x.d] 69)).heap.size = wr.heap.size + 1 by simp]; omega
          have HBZ := Lib.hid hBz
          clear hBz
          by_cases el : x.l = l
          · have EL := Lib.hid el
            have elb : (x.l != l) = false := by simpa using el
            clear el
            cases hin : decide (x.i ∈ its) with
            | true =>
              have HNX := Lib.hid (NEXT.out (by unfold isStray; rw [hin]; simp))
              rw [hin] at HAS
              clear hin
              go_wp2_with fail
              refine HAS.out.mono ?_
              rintro e wa ⟨rfl, rfl⟩
              go_wp2_with fail
              go_roundw
              case rel => exact ⟨j + 1, s1, o1, G1, nc1, by go_num, by omega, HNX.out, OA.out, QA.out, HCP1.out, hnc1, KK.out, HGG.out, HF.out, HBZ.out⟩
              case measure => simp only [lenV]; simp [intOf]; omega
            | false =>
              have HST : Hid (isStray l its s1.li[j] = true) := Lib.hid (by rw [HX.out]; unfold isStray; rw [hin]; simp [EL.out])
              rw [hin] at HAS
              obtain ⟨M9, hM9, hM9b⟩ := HCP1.out
              have CB := Lib.hid (countB_any _ G1 q s1 nl nc1 B QA.out (by omega) ⟨l, x.i, 0, 0, 0, 0, 1⟩ M9 (by omega) hM9 ⟨by simp, by simp, by simp, by simp, by simp⟩)
              clear hin hM9
              go_wp2_with fail
              refine HAS.out.mono ?_
              rintro e wa ⟨rfl, rfl⟩
              obtain ⟨wb, hwb⟩ : ∃ W, wr.alloc (.cells #[.int .i64 x.l, .int .i64 x.i, .int .i64 x.t, .bool x.d] 69) = W := ⟨_, rfl⟩
              rw [hwb] at CB OA QA KK BA HBZ ⊢
              clear hwb KA
              have bx1 : wb.cell? ⟨wr.heap.size, 1, none⟩ = some (.int .i64 x.i) := BA.out.cell 1
              go_wp2_with fail
              refine CB.out.mono ?_
              rintro e w8 ⟨rfl, G8, hq8, hk8, hg8⟩
              have K8 := Lib.hid hk8
              have G8F := Lib.hid hg8
              have Q8 : Hid (QB w8 G8 q (cntS s1 l x.i strC) nl (nc1 + 1) B) := Lib.hid hq8
              have hz8 := K8.out.size
              have hz7 := KK.out.size
              have hbz := HBZ.out
              have hqo : ∀ g ∈ fp (.slice Ao o1.length co), g ∉ [q] := fun g hg hm => by
                rw [List.mem_singleton.1 hm] at hg
                obtain ⟨_, _, _, _, _, _, _, _, hh, _⟩ := QA.out
                exact hh.noInt q hh.memq (own_int OA.out q hg)
              have OB := Lib.hid (own_keep OA.out K8.out hqo)
              clear hk8 hg8 hq8 CB hqo bx1 BA
              have RM := Lib.hid ((rm_ct 1000 (by omega)).1 w8 G8 q (cntS s1 l x.i strC) nl (nc1 + 1) B (StX l its) j Q8.out (by omega) (by omega) (by omega) (show s1.li.length ≤ 1000 by omega) (HGO.out.c.cnt _ _ _) hlt)
              go_wp2_with fail
              refine RM.out.mono ?_
              rintro e w9 ⟨v9, o9', s9, rfl, hr9, ho9, ⟨G9, hq9, hk9, hg9⟩, hf9⟩
              have hlen9 := hr9.len
              have hlt9 := hr9.lt
              have e9 : (cntS s1 l x.i strC).li.length = s1.li.length := rfl
              rw [e9] at hlen9 hlt9
              have HR9 : Hid (Rm (.rem j) (cntS s1 l s1.li[j].i strC) s9 o9') := Lib.hid (by rw [HX.out]; exact hr9)
              have CP9 := Lib.hid (HCP1.out.rem strC_ok HR9.out)
              have HO9 := Lib.hid ho9
              have hqo : ∀ g ∈ fp (.slice Ao o1.length co), g ∉ [q] := fun g hg hm => by
                rw [List.mem_singleton.1 hm] at hg
                obtain ⟨_, _, _, _, _, _, _, _, hh, _⟩ := Q8.out
                exact hh.noInt q hh.memq (own_int OB.out q hg)
              have OC := Lib.hid (own_keep OB.out hk9 hqo)
              have Q9 := Lib.hid hq9
              have K9 : Hid (Keeps [q] w1 w9) := Lib.hid ((KK.out.trans K8.out (fun g hg => .inl hg)).trans hk9 (fun g hg => .inl hg))
              have hz9 := hk9.size
              have G9F : Hid (∀ g ∈ G9, g ∈ G ∨ w1.heap.size ≤ g) := Lib.hid (fun g hg => (hg9 g hg).elim (fun h => (G8F.out g h).elim (HGG.out g) (fun h => .inr (by omega))) (fun h => .inr (by omega)))
              obtain ⟨A9, c9, rfl, -, -, -⟩ := own_shape ho9
              have hlo : o1.length + s1.li.length = s0.li.length := hln
              clear hr9 ho9 hq9 hk9 hg9 hf9 RM hqo
              go_wp2_with (at_builtin; refine wpList_app _ rfl (.tmp 163) (.tmp 166) _ rfl 3 (.int .i64 0) 1 8 Tryz.underlying22 HI3.out rfl (by omega) (.slice Ao o1.length co) _ _ rfl OC.out _ _ _ _ (zs o9') rfl (reads_own HO9.out) (zs_one _) (by unfold maxLen; omega) (by omega) ?_)
              intro v6 w6 o6 k6 f6
              have OX : Hid (w6.ownsRow 0 3 1 v6 (o1 ++ o9').length (zs (o1 ++ o9'))) := Lib.hid (by rw [List.length_append, zs_app]; exact o6)
              have QX : Hid (QB w6 G9 q s9 nl (nc1 + 1) B) := Lib.hid (Q9.out.keepI OC.out HF.out k6)
              have KX : Hid (Keeps [q] w1 w6) := Lib.hid (K9.out.trans k6 (fun g hg => .inr (Nat.le_trans hB1 (HF.out g hg))))
              have FX : Hid (∀ g ∈ fp v6, B ≤ g) := Lib.hid (fun g hg => (f6 g hg).elim (HF.out g) (fun h => by omega))
              have hz6 := k6.size
              obtain ⟨A6, c6, rfl, -, -, -⟩ := own_shape OX.out
              have hlx : (o1 ++ o9').length = o1.length + o9'.length := List.length_append
              clear o6 k6 f6 OC Q9
              go_wp2_with fail
              go_roundw
              case rel => exact ⟨j, s9, o1 ++ o9', G9, nc1 + 1, rfl, by (have hpre : min j s9.li.length = min j s1.li.length := (by have h0 := congrArg List.length (HR9.out.keepPre (HGO.out.c.cnt _ _ _)); rw [List.length_take, List.length_take] at h0; exact h0); omega), HGO.out.step hlt HST.out HR9.out, OX.out, QX.out, CP9.out, by omega, KX.out, G9F.out, FX.out, by omega⟩
              case measure => simp only [lenV]; simp [intOf]; omega
          · have HNX := Lib.hid (NEXT.out (by unfold isStray; simp [el]))
            have elb : (x.l != l) = true := by simpa using el
            clear HAS
            go_wp2_with fail
            go_roundw
            case rel => exact ⟨j + 1, s1, o1, G1, nc1, by go_num, by omega, HNX.out, OA.out, QA.out, HCP1.out, hnc1, KK.out, HGG.out, HF.out, HBZ.out⟩
            case measure => simp only [lenV]; simp [intOf]; omega
        · obtain rfl : j = s1.li.length := by omega
          go_wp2_with fail
          go_ret2
          refine ⟨_, s1, o1, 0, nc1, rfl, ?_, HO.out, ⟨G1, HQ.out.toR, KZ.out, HGG.out⟩, hnc1, fun g hg => Nat.le_trans hB1 (HF.out g hg)⟩
          have hd : St l its s1 s1 [] := .done (by
            rcases ixF_cases (isStray l its) s1.li with h | ⟨z, h⟩
            · exact h
            · obtain ⟨hz, h1, -⟩ := ixF_spec h
              rw [HGO.out.no z hz hz] at h1
              cases h1)
          have := HGO.out.ch s1 [] hd
          rw [List.append_nil] at this
          exact CY.out s1 o1 this
end Go.Proofs.YtcopjjokhjealaaGreat
