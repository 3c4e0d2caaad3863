/- The reference: Oldest, Victim. -/
import Derived.Test.YtcopjjokhjealaaGreatN6
namespace Go.Proofs.YtcopjjokhjealaaGreat
open Go.RowKit

noncomputable def oq12C : Code := ((Tryz.f12.body.bind (theRegion 12)).getD .skip)
set_option maxRecDepth 1000000 in
set_option maxHeartbeats 1600000 in
theorem oq12_any (w : World) (q g n c k : Nat) (i t : Int) (K : Exit → Act → World → Prop) (hk : k < n) (c0 : w.cell? ⟨q, 1, none⟩ = some (.slice (some ⟨g, 0, none⟩) n c))
    (c1 : w.cell? ⟨g, k * 4 + 1, none⟩ = some (.int .i64 i)) (c2 : w.cell? ⟨g, k * 4 + 2, none⟩ = some (.int .i64 t))
    (u1 u2 u3 u4 u5 u6 u7 u8 u10 u11 u12 u13 u14 u15 u16 u17 u18 u19 u20 u21 u22 u23 u24 u25 u26 u27 u28 u29 u30 u31 u32 u33 u34 u35 u36 u37 u38 u39 u40 u41 u42 u43 u44 u45 u46 u47 u48 u49 u50 u51 u52 u53 u54 u55 u56 u57 u58 u59 : Value)
    (hK : ∀ (v44 v45 v46 v47 v48 v49 v50 v51 v52 v53 v54 v55 v56 v57 v58 v59 : Value) (nq : Nat), K .normal ⟨#[.pointer (some ⟨q, 0, none⟩), u1, u2, u3, .int .i64 i, .int .i64 t, .bool true, u7, u8, .int .i64 k, u10, u11, u12, u13, u14, u15, u16, u17, u18, u19, u20, u21, u22, u23, u24, u25, u26, u27, u28, u29, u30, u31, u32, u33, u34, u35, u36, u37, u38, u39, u40, u41, u42, u43, v44, v45, v46, v47, v48, v49, v50, v51, v52, v53, v54, v55, v56, v57, v58, v59], []⟩ (w.drewN nq)) :
    Code.wp Tryz.prog oq12C K ⟨#[.pointer (some ⟨q, 0, none⟩), u1, u2, u3, u4, u5, u6, u7, u8, .int .i64 k, u10, u11, u12, u13, u14, u15, u16, u17, u18, u19, u20, u21, u22, u23, u24, u25, u26, u27, u28, u29, u30, u31, u32, u33, u34, u35, u36, u37, u38, u39, u40, u41, u42, u43, u44, u45, u46, u47, u48, u49, u50, u51, u52, u53, u54, u55, u56, u57, u58, u59], []⟩ w := by
  have i0 : (0 : Int) ≤ (k : Int) := by omega
  have i1 : (k : Int) < (n : Int) := by omega
  clear hk
  conv => arg 2; whnf
  try dsimp only at hK ⊢
  go_quiet (fail)
  exact hK _ _ _ _ _ _ _ _ _ _ _ _ _ _ _ _ nq
noncomputable def vq5C : Code := ((Tryz.f14.body.bind (theRegion 5)).getD .skip)
set_option maxRecDepth 1000000 in
set_option maxHeartbeats 1600000 in
theorem vq5_any (w : World) (q xb : Nat) (x : Rn) (y : Int) (K : Exit → Act → World → Prop) (B : Blk w xb 69 #[.int .i64 x.l, .int .i64 x.i, .int .i64 x.t, .bool x.d])
    (hL : x.l = 0 → ∃ g1 n1 k1 g2 n2 k2, 0 < n1 ∧ 0 < n2 ∧ w.cell? ⟨q, 0, none⟩ = some (.slice (some ⟨g1, 0, none⟩) n1 k1) ∧ w.cell? ⟨g1, 3, none⟩ = some (.slice (some ⟨g2, 0, none⟩) n2 k2) ∧ w.cell? ⟨g2, 0, none⟩ = some (.int .i64 y))
    (b : Bool) (hb : vicP y x = b)
    (u1 u2 u3 u4 u5 u6 u8 u9 u10 u11 u12 u13 u14 u15 u16 u17 u18 u19 u20 u21 u22 u23 u24 u25 u26 u27 u28 u29 u30 u31 u32 u33 u34 u35 u36 u37 u38 u39 u40 u41 u42 u43 u44 u45 u46 u47 : Value)
    (hK : ∀ (v25 v26 v27 v28 v29 v30 v31 v32 v33 v34 v35 v36 v37 v38 v39 v40 : Value) (nq : Nat) (b0 : Value), b0 = .bool b → K .normal ⟨#[.pointer (some ⟨q, 0, none⟩), u1, u2, u3, u4, u5, u6, .pointer (some ⟨xb, 0, none⟩), u8, u9, u10, u11, u12, u13, u14, u15, u16, u17, u18, u19, u20, u21, u22, u23, u24, v25, v26, v27, v28, v29, v30, v31, v32, v33, v34, v35, v36, v37, v38, v39, v40, b0, u42, u43, u44, u45, u46, u47], []⟩ (w.drewN nq)) :
    Code.wp Tryz.prog vq5C K ⟨#[.pointer (some ⟨q, 0, none⟩), u1, u2, u3, u4, u5, u6, .pointer (some ⟨xb, 0, none⟩), u8, u9, u10, u11, u12, u13, u14, u15, u16, u17, u18, u19, u20, u21, u22, u23, u24, u25, u26, u27, u28, u29, u30, u31, u32, u33, u34, u35, u36, u37, u38, u39, u40, u41, u42, u43, u44, u45, u46, u47], []⟩ w := by
  have x0 := B.cell 0
  have x1 := B.cell 1
  have HB := Lib.hid hb
  have HL := Lib.hid hL
  clear hL hb B
  obtain ⟨xl, hxl⟩ : ∃ y, x.l = y := ⟨_, rfl⟩
  obtain ⟨xi, hxi⟩ : ∃ y, x.i = y := ⟨_, rfl⟩
  unfold vicP at HB
  rw [hxl] at x0 HB HL
  rw [hxi] at x1 HB
  clear hxl hxi
  conv => arg 2; whnf
  dsimp only at hK ⊢
  by_cases e1 : xl = 0
  · obtain ⟨g1, n1, k1, g2, n2, k2, h1, h2, c0, c1, c2⟩ := HL.out e1
    subst e1
    have i1 : (0 : Int) < (n1 : Int) := by omega
    have i2 : (0 : Int) < (n2 : Int) := by omega
    clear HL
    by_cases e2 : xi = y
    · obtain rfl : false = b := by rw [← HB.out]; simp [e2]
      clear HB
      go_quiet (fail)
      exact hK _ _ _ _ _ _ _ _ _ _ _ _ _ _ _ _ nq _ (by first | rfl | (simp; done) | (simp [e2]; done))
    · obtain rfl : true = b := by rw [← HB.out]; simp [e2]
      clear HB
      go_quiet (fail)
      exact hK _ _ _ _ _ _ _ _ _ _ _ _ _ _ _ _ nq _ (by first | rfl | (simp; done) | (simp [e2]; done))
  · obtain rfl : true = b := by rw [← HB.out]; simp [e1]
    clear HB HL
    go_quiet (fail)
    exact hK _ _ _ _ _ _ _ _ _ _ _ _ _ _ _ _ nq _ (by first | rfl | (simp; done) | (simp [e1]; done))
noncomputable def vq6C : Code := ((Tryz.f14.body.bind (theRegion 6)).getD .skip)
set_option maxRecDepth 1000000 in
set_option maxHeartbeats 1600000 in
theorem vq6_any (w : World) (xb : Nat) (x : Rn) (K : Exit → Act → World → Prop) (B : Blk w xb 69 #[.int .i64 x.l, .int .i64 x.i, .int .i64 x.t, .bool x.d])
    (u0 u1 u2 u3 u4 u5 u6 u8 u9 u10 u11 u12 u13 u14 u15 u16 u17 u18 u19 u20 u21 u22 u23 u24 u25 u26 u27 u28 u29 u30 u31 u32 u33 u34 u35 u36 u37 u38 u39 u40 u41 u42 u43 u44 u45 u46 u47 : Value)
    (hK : ∀ (v42 v43 v44 v45 v46 v47 : Value) (nq : Nat), K .normal ⟨#[u0, u1, .int .i64 x.l, .int .i64 x.i, .int .i64 x.t, .bool true, u6, .pointer (some ⟨xb, 0, none⟩), u8, u9, u10, u11, u12, u13, u14, u15, u16, u17, u18, u19, u20, u21, u22, u23, u24, u25, u26, u27, u28, u29, u30, u31, u32, u33, u34, u35, u36, u37, u38, u39, u40, u41, v42, v43, v44, v45, v46, v47], []⟩ (w.drewN nq)) :
    Code.wp Tryz.prog vq6C K ⟨#[u0, u1, u2, u3, u4, u5, u6, .pointer (some ⟨xb, 0, none⟩), u8, u9, u10, u11, u12, u13, u14, u15, u16, u17, u18, u19, u20, u21, u22, u23, u24, u25, u26, u27, u28, u29, u30, u31, u32, u33, u34, u35, u36, u37, u38, u39, u40, u41, u42, u43, u44, u45, u46, u47], []⟩ w := by
  have x0 := B.cell 0
  have x1 := B.cell 1
  have x2 := B.cell 2
  clear B
  conv => arg 2; whnf
  try dsimp only at hK ⊢
  go_quiet (fail)
  exact hK _ _ _ _ _ _ nq
theorem results_tmp4 {fn : Func} {t u v x : Tmp} (h : fn.results = #[.tmp t, .tmp u, .tmp v, .tmp x]) (tmps : Array Value) (P : Program) (w : World) :
    (results fn tmps).run P w = .ok (.tuple #[tmps.getD t undef, tmps.getD u undef, tmps.getD v undef, tmps.getD x undef]) w := by
  simp [results, h]
set_option maxRecDepth 100000 in
set_option maxHeartbeats 3200000 in
theorem oldestQ_any (w : World) (G : List Nat) (q : Nat) (s : Pl) (nl nc : Nat) (h : QR w G q s nl nc) (hnl : nl ≤ 1000) (hl : s.li.length ≤ 1000) (hi : ∀ x n, s.ln x = some n → n.it.length ≤ 1000) (x : Int) :
    Calls Tryz.prog 12 #[.pointer (some ⟨q, 0, none⟩), .int .i64 x] w fun e w' => e = .returned (.tuple #[.int .i64 ((oldV s x).getD (0, 0)).1, .int .i64 ((oldV s x).getD (0, 0)).2, .bool (oldV s x).isSome]) ∧ Keeps [] w w' := by
  obtain ⟨LV, C, A1, A2, A3, c1, c2, c3, h, hb1, hb2⟩ := h
  have f0 : w.cell? ⟨q, 0, none⟩ = some (.slice A1 LV.length c1) := h.b.cell 0
  have f1 : w.cell? ⟨q, 1, none⟩ = some (.slice A2 s.li.length c2) := h.b.cell 1
  have AL := AtV.of_own h.o1 (by omega)
  have AR := AtR.of_own h.o2 (by omega)
  have HL := Lib.hid (lineQ_any w q A1 LV c1 x f0 AL)
  have HR := Lib.hid (fun y => runQ_any w q A2 s.li c2 x y f1 AR)
  have HO2 := Lib.hid h.o2
  obtain ⟨V, hV⟩ : ∃ V, oldV s x = V := ⟨_, rfl⟩
  rw [hV]
  rcases h.line x with ⟨e1, e2⟩ | ⟨k, hk, n, e1, e2, e3, e4, e5, e6, e7, e8⟩
  · rw [e1] at HL
    have eV : V = none := by rw [← hV]; unfold oldV; rw [e2]
    subst eV
    clear hV h hi AL AR HR f1
    go_enter Tryz.func12, Tryz.ntmps12
    go_wp2_with fail
    refine HL.out.mono ?_
    rintro e w1 ⟨rfl, rfl⟩
    go_wp2_with fail
    go_ret3
    exact ⟨rfl, Keeps.refl _ _⟩
  · rw [e1] at HL
    have hnl2 := hi x n e3
    have HZ := Lib.hid (AtZ.of_own e8 (by omega))
    obtain ⟨bl, off, hAA, hbl, hc⟩ := AL.at_ (by omega)
    subst hAA
    obtain ⟨-, -, -, d3⟩ := hc k hk
    rw [e7] at d3
    obtain ⟨Ai, hAi⟩ : ∃ Ai, (LV[k].b.map fun g => (⟨g, 0, none⟩ : Addr)) = Ai := ⟨_, rfl⟩
    rw [hAi] at d3 HZ
    obtain ⟨ci, hci⟩ : ∃ c, LV[k].c = c := ⟨_, rfl⟩
    rw [hci] at d3
    obtain ⟨it, hit⟩ : ∃ it, n.it = it := ⟨_, rfl⟩
    rw [hit] at d3 HZ hnl2
    have hV2 : V = oldI s x it := by rw [← hV, ← hit]; unfold oldV; rw [e3]
    have HV := Lib.hid hV2
    have i0 : (0 : Int) ≤ (k : Int) := by omega
    have i1 : (k : Int) < (LV.length : Int) := by omega
    have i2 : max (k : Int) 0 = k := by omega
    clear hV hV2 h hi e1 e2 e3 e4 e5 e6 e7 e8 hAi hci hc AL AR hit
    cases it with
    | nil =>
      have eV : V = none := HV.out
      subst eV
      clear HV HR HZ
      go_enter Tryz.func12, Tryz.ntmps12
      go_wp2_with fail
      refine HL.out.mono ?_
      rintro e w1 ⟨rfl, rfl⟩
      go_wp2_with fail
      go_ret3
      exact ⟨rfl, Keeps.refl _ _⟩
    | cons y it =>
      obtain ⟨m, hm⟩ : ∃ m, (y :: it).length = m := ⟨_, rfl⟩
      have hm0 : 0 < m := by rw [← hm]; simp
      obtain ⟨b2, o2, hAA, hb2, hc⟩ := HZ.out.at_ (by simp)
      subst hAA
      have c0 : w.cell? ⟨b2, o2, none⟩ = some (.int .i64 y) := hc 0 (by simp)
      rw [hm] at d3
      have HV3 : Hid (V = oldY s x y) := Lib.hid HV.out
      have m0 : (0 : Int) < (m : Int) := by omega
      have mz : ((m : Int) == 0) = false := by simp; omega
      clear hc HV HZ hm
      by_cases hneg : fndI s.li x y < 0
      · have eV : V = none := by rw [HV3.out]; unfold oldY; rw [if_pos hneg]
        subst eV
        have HRY := Lib.hid (HR.out y)
        obtain ⟨I, hI⟩ : ∃ I, fndI s.li x y = I := ⟨_, rfl⟩
        rw [hI] at hneg HRY
        clear HV3 hI HR f1
        go_enter Tryz.func12, Tryz.ntmps12
        go_wp2_with fail
        refine HL.out.mono ?_
        rintro e w1 ⟨rfl, rfl⟩
        go_wp2_with fail
        refine HRY.out.mono ?_
        rintro e w1 ⟨rfl, rfl⟩
        go_wp2_with fail
        go_ret3
        exact ⟨rfl, Keeps.refl _ _⟩
      · obtain ⟨j, hj, hjI⟩ := ixF_lt hneg
        have hjI : fndI s.li x y = j := hjI
        have HRY := Lib.hid (HR.out y)
        rw [hjI] at HRY
        have hkk := fnd_spec hjI
        obtain ⟨_, _, hv, -, -, hA⟩ := own_shape HO2.out
        obtain ⟨rfl, -, rfl⟩ : A2 = _ ∧ s.li.length = _ ∧ c2 = _ := by injection hv with h1 h2 h3; exact ⟨h1, rfl, h3⟩
        obtain ⟨g2, rfl⟩ := hA (by omega)
        have r1 := own_cell (j := j * 4 + 1) (u := .int .i64 s.li[j].i) HO2.out (by rw [rw_at rcs_len hj (by omega)]; rfl)
        have r2 := own_cell (j := j * 4 + 2) (u := .int .i64 s.li[j].t) HO2.out (by rw [rw_at rcs_len hj (by omega)]; rfl)
        have r3 := own_cell (j := j * 4 + 3) (u := .bool s.li[j].d) HO2.out (by rw [rw_at rcs_len hj (by omega)]; rfl)
        have hV4 : V = if s.li[j].d then some (y, s.li[j].t) else none := by
          rw [HV3.out]; unfold oldY; rw [if_neg hneg, hjI]
          show (match s.li[j]? with | none => none | some r => if r.d then some (y, r.t) else none) = _
          rw [List.getElem?_eq_getElem hj]
        have eri : s.li[j].i = y := by obtain ⟨_, _, h⟩ := hkk; exact h
        rw [eri] at r1
        obtain ⟨rt, hrt⟩ : ∃ t, s.li[j].t = t := ⟨_, rfl⟩
        obtain ⟨rd, hrd⟩ : ∃ t, s.li[j].d = t := ⟨_, rfl⟩
        rw [hrt] at r2 hV4
        rw [hrd] at r3 hV4
        have j0 : (0 : Int) ≤ (j : Int) := by omega
        have j1 : (j : Int) < (s.li.length : Int) := by omega
        have jn : ¬ (j : Int) < 0 := by omega
        clear hA hv hneg hjI hkk eri hrt hrd HV3 HR
        cases rd with
        | false =>
          have eV : V = none := by rw [hV4]; rfl
          subst eV
          clear hV4
          go_enter Tryz.func12, Tryz.ntmps12
          go_wp2_with fail
          refine HL.out.mono ?_
          rintro e w1 ⟨rfl, rfl⟩
          go_wp2_with fail
          refine HRY.out.mono ?_
          rintro e w1 ⟨rfl, rfl⟩
          go_wp2_with fail
          go_ret3
          exact ⟨rfl, Keeps.refl _ _⟩
        | true =>
          have eV : V = some (y, rt) := by rw [hV4]; rfl
          subst eV
          clear hV4
          go_enter Tryz.func12, Tryz.ntmps12
          go_wp2_with fail
          refine HL.out.mono ?_
          rintro e w1 ⟨rfl, rfl⟩
          go_wp2_with fail
          refine HRY.out.mono ?_
          rintro e w1 ⟨rfl, rfl⟩
          go_upto_region 12 with fail
          refine oq12_any w1 q g2 s.li.length c2 j y rt _ hj f1 r1 r2 _ _ _ _ _ _ _ _ _ _ _ _ _ _ _ _ _ _ _ _ _ _ _ _ _ _ _ _ _ _ _ _ _ _ _ _ _ _ _ _ _ _ _ _ _ _ _ _ _ _ _ _ _ _ _ _ _ _ ?_
          intro v44 v45 v46 v47 v48 v49 v50 v51 v52 v53 v54 v55 v56 v57 v58 v59 nq
          go_wp2_with fail
          go_ret3
          exact ⟨rfl, (Keeps.refl _ _).drewN nq⟩
set_option maxRecDepth 100000 in
set_option maxHeartbeats 6400000 in
theorem victimQ_any (w : World) (G : List Nat) (q : Nat) (s : Pl) (nl nc : Nat) (h : QR w G q s nl nc) (hl : s.li.length ≤ 1000) (hid : ∀ x n, s.ln x = some n → 0 ≤ x) (y : Int) (h0 : ∀ r ∈ s.li, r.l = 0 → ∃ n, s.ln 0 = some n ∧ n.it.head? = some y) :
    Calls Tryz.prog 14 #[.pointer (some ⟨q, 0, none⟩)] w fun e w' => e = .returned (.tuple #[.int .i64 (((vicV s y).map (·.l)).getD 0), .int .i64 (((vicV s y).map (·.i)).getD 0), .int .i64 (((vicV s y).map (·.t)).getD 0), .bool (vicV s y).isSome]) ∧ Keeps [] w w' := by
  obtain ⟨LV, C, A1, A2, A3, c1, c2, c3, h, hb1, hb2⟩ := h
  have f1 : w.cell? ⟨q, 1, none⟩ = some (.slice A2 s.li.length c2) := h.b.cell 1
  have HF1 : Hid (∀ W, Keeps [] w W → W.cell? ⟨q, 1, none⟩ = some (.slice A2 s.li.length c2)) := Lib.hid (fun W k => (h.keep0 k).b.cell 1)
  have AR : Hid (∀ W, Keeps [] w W → AtR W A2 s.li) := Lib.hid (fun W k => AtR.of_own (h.keep0 k).o2 (by omega))
  have HLN : Hid (∀ W, Keeps [] w W → (∃ r ∈ s.li, r.l = 0) → ∃ g1 n1 k1 g2 n2 k2, 0 < n1 ∧ 0 < n2 ∧ W.cell? ⟨q, 0, none⟩ = some (.slice (some ⟨g1, 0, none⟩) n1 k1) ∧ W.cell? ⟨g1, 3, none⟩ = some (.slice (some ⟨g2, 0, none⟩) n2 k2) ∧ W.cell? ⟨g2, 0, none⟩ = some (.int .i64 y)) := Lib.hid (fun W kW hr => by
    obtain ⟨r, hr, hr0⟩ := hr
    obtain ⟨n, hn, hny⟩ := h0 r hr hr0
    have hh := h.keep0 kW
    have hmem := hh.lc 0 (by rw [hn]; rfl)
    obtain ⟨v, hv, hv0⟩ := List.mem_map.1 hmem
    have hpos : 0 < LV.length := List.length_pos_of_mem hv
    have hz : LV[0].id = 0 := by
      obtain ⟨j, hj, rfl⟩ := List.getElem_of_mem hv
      by_cases e : j = 0
      · subst e; exact hv0
      · have hp := List.pairwise_iff_getElem.1 hh.as1 0 j (by simpa using hpos) (by simpa using hj) (by omega)
        simp only [List.getElem_map] at hp
        obtain ⟨n', hn', -⟩ := hh.ls _ (List.getElem_mem hpos)
        have := hid _ _ hn'
        rw [hv0] at hp
        omega
    obtain ⟨n', hn', e4, e5, e6, e7, e8⟩ := hh.ls _ (List.getElem_mem hpos)
    rw [hz, hn] at hn'
    injection hn' with hn'
    subst hn'
    obtain ⟨_, _, hv1, -, -, hA⟩ := own_shape hh.o1
    obtain ⟨rfl, -, rfl⟩ : A1 = _ ∧ LV.length = _ ∧ c1 = _ := by injection hv1 with h1 h2 h3; exact ⟨h1, rfl, h3⟩
    obtain ⟨g1, rfl⟩ := hA hpos
    have d3 := own_cell (j := 0 * 4 + 3) hh.o1 (u := .slice (LV[0].b.map fun g => ⟨g, 0, none⟩) LV[0].n LV[0].c) (by rw [rw_at lcs_len4 hpos (by omega)]; rfl)
    have hlen : 0 < n.it.length := by cases hq : n.it with
      | nil => rw [hq] at hny; cases hny
      | cons a b => simp
    obtain ⟨_, _, hv2, -, -, hB⟩ := own_shape e8
    injection hv2 with hv2 hv3 hv4
    obtain ⟨g2, hg2⟩ := hB hlen
    rw [← hv2] at hg2
    rw [hg2] at e8 d3
    have dy := own_cell (j := 0) (u := .int .i64 y) e8 (by
      unfold zs
      cases hq : n.it with
      | nil => rw [hq] at hny; cases hny
      | cons a b => rw [hq] at hny; injection hny with hny; subst hny; rfl)
    exact ⟨g1, _, _, g2, _, _, hpos, by rw [e7]; exact hlen, hh.b.cell 0, d3, dy⟩)
  obtain ⟨V, hV⟩ : ∃ V, vicV s y = V := ⟨_, rfl⟩
  rw [hV]
  have HV := Lib.hid hV
  clear h h0 hV hid
  go_enter Tryz.func14, Tryz.ntmps14
  go_wp2_with fail
  go_loopw [6] (fun iv wr => ∃ k : Nat, k ≤ s.li.length ∧ iv = .int .i64 ((k : Int) - 1) ∧ (∀ j (hj : j < s.li.length), k ≤ j → vicP y s.li[j] = false) ∧ Keeps [] w wr) (fun iv _ => (intOf iv + 1).toNat)
  case atStart => exact ⟨s.li.length, by omega, by go_num, fun j hj h => absurd h (by omega), Keeps.refl _ _⟩
  case round =>
    obtain ⟨k, hk, rfl, hno, kp⟩ := hrel
    have HNO := Lib.hid hno
    have KP := Lib.hid kp
    have f2 := HF1.out wr kp
    clear hno kp f1
    rcases k with _ | k
    · have eV : V = none := by
        rw [← HV.out]
        unfold vicV
        rw [List.find?_eq_none]
        intro r hr
        obtain ⟨j, hj, rfl⟩ := List.getElem_of_mem (List.mem_reverse.1 hr)
        rw [HNO.out j hj (by omega)]
        simp
      have HE := Lib.hid eV
      clear eV
      go_wp2_with fail
      (try simp only [Exit.inBlock, Exit.then]); refine bodyPost_ret (results_tmp4 rfl _ _ _) rfl ?_
      rw [HE.out]
      exact ⟨rfl, KP.out⟩
    · have hlt : k < s.li.length := by omega
      obtain ⟨bl, off, hAA, hbl, hc⟩ := (AR.out wr KP.out).at_ (by omega)
      subst hAA
      obtain ⟨d0, d1, d2, d3⟩ := hc k hlt
      obtain ⟨x, hx⟩ : ∃ x, s.li[k] = x := ⟨_, rfl⟩
      rw [hx] at d0 d1 d2 d3
      have HX := Lib.hid hx
      have j0 : (0 : Int) ≤ (k : Int) := by omega
      have j1 : (k : Int) < (s.li.length : Int) := by omega
      have e1 : (((k + 1 : Nat) : Int) - 1) = (k : Int) := by omega
      rw [e1]
      have HBX : Hid (Blk (wr.alloc (.cells #[.int .i64 x.l, .int .i64 x.i, .int .i64 x.t, .bool x.d] 69)) wr.heap.size 69 #[.int .i64 x.l, .int .i64 x.i, .int .i64 x.t, .bool x.d]) := Lib.hid (Blk.new _ _ _)
      have KA : Hid (Keeps [] w (wr.alloc (.cells #[.int .i64 x.l, .int .i64 x.i, .int .i64 x.t, .bool x.d] 69))) := Lib.hid (KP.out.alloc _)
      clear hc hx e1
      obtain ⟨b, hb⟩ : ∃ b, vicP y x = b := ⟨_, rfl⟩
      have HB := Lib.hid hb
      clear hb
      go_upto_region 5 with fail
      refine vq5_any _ q wr.heap.size x y _ HBX.out (fun hx0 => HLN.out _ KA.out ⟨x, by rw [← HX.out]; exact List.getElem_mem hlt, hx0⟩) b HB.out _ _ _ _ _ _ _ _ _ _ _ _ _ _ _ _ _ _ _ _ _ _ _ _ _ _ _ _ _ _ _ _ _ _ _ _ _ _ _ _ _ _ _ _ _ _ ?_
      intro v25 v26 v27 v28 v29 v30 v31 v32 v33 v34 v35 v36 v37 v38 v39 v40 nq b0 hb0
      subst hb0
      obtain ⟨W2, hW2⟩ : ∃ W, (wr.alloc (.cells #[.int .i64 x.l, .int .i64 x.i, .int .i64 x.t, .bool x.d] 69)).drewN nq = W := ⟨_, rfl⟩
      have K2 : Hid (Keeps [] w W2) := Lib.hid (by rw [← hW2]; exact KA.out.drewN nq)
      have B2 : Hid (Blk W2 wr.heap.size 69 #[.int .i64 x.l, .int .i64 x.i, .int .i64 x.t, .bool x.d]) := Lib.hid (by rw [← hW2]; exact HBX.out.drewN nq)
      rw [hW2]
      clear hW2 KA HBX d0 d1 d2 d3 f2
      cases b with
      | true =>
        have eV : V = some x := by
          rw [← HV.out]
          unfold vicV
          rw [List.find?_eq_some_iff_getElem]
          refine ⟨HB.out, s.li.length - 1 - k, by rw [List.length_reverse]; omega, ?_, fun j hj => ?_⟩
          · rw [List.getElem_reverse, ← HX.out]
            congr 1; omega
          · rw [List.getElem_reverse]
            rw [HNO.out _ (by omega) (by omega)]
            rfl
        have HE := Lib.hid eV
        clear eV
        go_upto_if 41 with fail
        go_upto_region 6 with fail
        refine vq6_any W2 wr.heap.size x _ B2.out _ _ _ _ _ _ _ _ _ _ _ _ _ _ _ _ _ _ _ _ _ _ _ _ _ _ _ _ _ _ _ _ _ _ _ _ _ _ _ _ _ _ _ _ _ _ _ ?_
        intro v42 v43 v44 v45 v46 v47 nq6
        go_wp2_with fail
        (try simp only [Exit.inBlock, Exit.then]); refine bodyPost_ret (results_tmp4 rfl _ _ _) rfl ?_
        rw [HE.out]
        exact ⟨rfl, K2.out.drewN nq6⟩
      | false =>
        go_wp2_with fail
        go_roundw
        case rel =>
          refine ⟨k, by omega, by go_num, fun j hj hjk => ?_, K2.out⟩
          by_cases e : j = k
          · subst e; rw [HX.out]; exact HB.out
          · exact HNO.out j hj (by omega)
        case measure => simp [intOf]
end Go.Proofs.YtcopjjokhjealaaGreat
