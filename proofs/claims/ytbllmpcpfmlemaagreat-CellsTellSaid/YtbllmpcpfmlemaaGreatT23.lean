/- The law CellsTell, walked (printed by t23gen.py). -/
import Derived.Test.YtbllmpcpfmlemaaGreatT22
namespace Go.Proofs.YtbllmpcpfmlemaaGreat
open Go.RowKit
/-- The program and the reference do the same. -/
theorem bth_both {P : List Str} {n : Nat} {C : St} (hf : Fit P n C) (hn : n ≤ 100000) (hP : PoolOk P) (x : Opn) (hx : OkO P x) (A : Option Addr) (cc : Nat) :
    ∃ (s : Str) (q : List Str) (z : Int) (E : St), Fit P (n + 1) E ∧ q.length ≤ 1000000 ∧
      (∀ a W c d T, Bth a W c d C C T → AtS W A x.r.list → Calls Tryz.prog 11 #[.pointer (some ⟨c, 0, none⟩), .agg #[.int .i64 x.dw, .int .i64 x.who, .int .i64 x.n, sv x.key, sv x.val, .int .i64 x.r.kind, sv x.r.key, sv x.r.val, .slice A x.r.list.length cc]] W fun y w' =>
        ∃ v, y = .returned (.tuple #[sv s, v, .int .i64 z]) ∧ w'.ownsRow 0 9 1 v q.length (vs q) ∧ Bth a w' c d E C (fp v)) ∧
      (∀ a W c d T, Bth a W c d E C T → AtS W A x.r.list → Calls Tryz.prog 12 #[.pointer (some ⟨d, 0, none⟩), .agg #[.int .i64 x.dw, .int .i64 x.who, .int .i64 x.n, sv x.key, sv x.val, .int .i64 x.r.kind, sv x.r.key, sv x.r.val, .slice A x.r.list.length cc]] W fun y w' =>
        ∃ v, y = .returned (.tuple #[sv s, v, .int .i64 z]) ∧ w'.ownsRow 0 9 1 v q.length (vs q) ∧ Bth a w' c d E E [] ∧ Kept T W w') :=
  ⟨_, _, _, (doP C x).2, hf.do_ hx.p hx.n.2 hx.v, do_len hf.wf hP x hx.k, fun _ _ _ _ _ h hA => h.do_ hf.wf hP (hf.hl hn) (hf.hlg hn) x hx A cc hA,
    fun _ _ _ _ _ h hA => h.model hf.wf hP (hf.hl hn) (by have := hf.lg; omega) x hx A cc hA⟩
set_option maxRecDepth 1000000 in
set_option maxHeartbeats 25600000 in
theorem tell_walk (w : World) (A : Option Addr) (L : List Oq) (ca : Nat) (hA : AtO w A L) :
    Calls Tryz.prog 3 #[.slice A L.length ca] w fun e w' => e = .returned (.bool true) ∧ Keeps [] w w' := by
  have HL := Lib.hid hA
  have mL := hA.mx
  have CS := Lib.hid (small_any w)
  clear hA
  go_enter Tryz.func3, Tryz.ntmps3
  go_wp2_with fail
  refine CS.out.mono ?_
  rintro e w1 ⟨rfl, k1⟩
  have K1 := Lib.hid k1
  clear k1 CS
  go_wp2_with fail
  refine (new_any w1).mono ?_
  rintro e w2 ⟨c, F, rfl, hc, hF, k2⟩
  have HO : Hid (∃ F G, Cs w2 c F G new0 ∧ (∀ g ∈ F, w.heap.size ≤ g) ∧ Keeps [] w w2) := Lib.hid ⟨F, [], hc, fun g hg => Nat.le_trans K1.out.size (hF g hg), K1.out.trans k2 (by simp)⟩
  clear hc hF k2 K1
  go_wp2_with fail
  refine (bth_new HO.out).mono ?_
  rintro e w3 ⟨d, rfl, hb⟩
  have HB := Lib.hid hb
  clear hb HO
  have CF := Lib.hid (few_any w3 A L ca 60 (HL.out.keep HB.out.k))
  obtain ⟨V, hV⟩ : ∃ V, fewB L 60 = V := ⟨_, rfl⟩
  rw [hV] at CF
  have HV := Lib.hid hV
  clear hV
  cases V with
  | false =>
    go_wp2_with fail
    refine CF.out.mono ?_
    rintro e w4 ⟨rfl, rfl⟩
    go_wp2_with fail
    go_ret
    exact ⟨rfl, HB.out.k⟩
  | true =>
  have l1 : L.length ≤ 60 := by have := (few_spec HV.out).1; omega
  obtain ⟨P, hP1, hP2⟩ : ∃ P, PoolOk P ∧ ∀ k ∈ poolL L, k ∈ P := by
    refine ⟨poolL L, PoolOk.mk' (fun s hs => poolL_short HV.out s hs) ?_, fun k hk => hk⟩
    have h1 := poolL_len (L := L) (fun q hq => ((few_spec HV.out).2 q hq).2.1)
    omega
  have HP := Lib.hid hP1
  have HOKL := Lib.hid (OkL.of HL.out HV.out hP2)
  clear hP1 hP2 HV
  go_wp2_with fail
  refine CF.out.mono ?_
  rintro e w4 ⟨rfl, rfl⟩
  clear CF
  go_wp2_with fail
  go_loopw [6, 7, 8, 9, 10, 11, 12] (fun iv _ _ _ _ _ _ wr => ∃ (j : Nat) (C : St), j ≤ L.length ∧ iv = .int .i64 j ∧ Bth w wr c d C C [] ∧ Fit P j C) (fun iv _ _ _ _ _ _ _ => L.length - (intOf iv).toNat)
  case atStart => exact ⟨0, new0, by omega, rfl, HB.out, Fit.new0 P⟩
  case round =>
    obtain ⟨j, C, hj, rfl, ho, hf⟩ := hrel
    clear HB
    have HB := Lib.hid ho
    have HF := Lib.hid hf
    clear ho hf
    obtain ⟨wa, rfl⟩ : ∃ wa, wa = wr := ⟨_, rfl⟩
    by_cases hlt : j < L.length
    · have j0 : (0 : Int) ≤ (j : Int) := by omega
      have j1 : (j : Int) < (L.length : Int) := by omega
      obtain ⟨bl, off, hAA, c0, c1, c2, c3, c4, c5, c6, c7, c8⟩ := (HL.out.keep HB.out.k).get hlt
      have HX := Lib.hid (HOKL.out _ (List.getElem_mem hlt))
      have HZ := Lib.hid (fun W (hk : Keeps [] w W) => (HL.out.keep hk).ml _ (List.getElem_mem hlt) HX.out.2)
      have HG : Hid (∀ W, Keeps [] w W → W.cell? ⟨bl, off + j * 9, none⟩ = some (.int .i64 L[j].x.dw) ∧ W.cell? ⟨bl, off + j * 9 + 1, none⟩ = some (.int .i64 L[j].x.who) ∧ W.cell? ⟨bl, off + j * 9 + 2, none⟩ = some (.int .i64 L[j].x.n) ∧
          W.cell? ⟨bl, off + j * 9 + 3, none⟩ = some (sv L[j].x.key) ∧ W.cell? ⟨bl, off + j * 9 + 4, none⟩ = some (sv L[j].x.val) ∧ W.cell? ⟨bl, off + j * 9 + 5, none⟩ = some (.int .i64 L[j].x.r.kind) ∧
          W.cell? ⟨bl, off + j * 9 + 6, none⟩ = some (sv L[j].x.r.key) ∧ W.cell? ⟨bl, off + j * 9 + 7, none⟩ = some (sv L[j].x.r.val) ∧ W.cell? ⟨bl, off + j * 9 + 8, none⟩ = some (.slice L[j].A L[j].x.r.list.length L[j].c)) := Lib.hid (fun W hk => by
        obtain ⟨b', o', e', h'⟩ := (HL.out.keep hk).get hlt
        rw [hAA] at e'
        injection e' with e'
        injection e' with e1 e2 e3
        subst e1 e2
        exact h')
      subst hAA
      obtain ⟨q, hq⟩ : ∃ q, L[j] = q := ⟨_, rfl⟩
      rw [hq] at c0 c1 c2 c3 c4 c5 c6 c7 c8 HX HZ HG
      clear hq
      obtain ⟨s, ql, zz, E, hfe, hql, hdo, hmo⟩ := bth_both HF.out (by omega) HP.out q.x HX.out.1 q.A q.c
      have HFE := Lib.hid hfe
      have HQL := Lib.hid hql
      have HDO := Lib.hid hdo
      have HMO := Lib.hid hmo
      clear hfe hql hdo hmo
      go_wp2_with fail
      refine (HDO.out _ _ _ _ _ HB.out (HZ.out _ HB.out.k)).mono ?_
      rintro e w6 ⟨v, rfl, o6, d6⟩
      obtain ⟨B1, n1, rfl, -, -, -⟩ := own_shape o6
      have D6 := Lib.hid d6
      have O6 := Lib.hid o6
      clear d6 o6 HB HDO c0 c1 c2 c3 c4 c5 c6 c7 c8
      obtain ⟨c0, c1, c2, c3, c4, c5, c6, c7, c8⟩ := HG.out _ D6.out.k
      go_wp2_with fail
      refine (HMO.out _ _ _ _ _ D6.out (HZ.out _ D6.out.k)).mono ?_
      rintro e w7 ⟨v, rfl, o7, d7, k7⟩
      obtain ⟨B2, n2, rfl, -, -, -⟩ := own_shape o7
      have HB := Lib.hid d7
      have O7 := Lib.hid o7
      have O6' := Lib.hid (k7.own O6.out (by simp))
      clear d7 o7 k7 D6 O6 HMO HZ c0 c1 c2 c3 c4 c5 c6 c7 c8
      have HS : Hid (∀ W, Keeps [] w7 W → W.cell? ⟨bl, off + j * 9 + 1, none⟩ = some (.int .i64 q.x.who) ∧ W.cell? ⟨bl, off + j * 9 + 3, none⟩ = some (sv q.x.key)) := Lib.hid (fun W hk => by
        obtain ⟨c0, c1, c2, c3, c4, c5, c6, c7, c8⟩ := HG.out W (HB.out.k.trans hk (by simp))
        exact ⟨c1, c3⟩)
      have hiz : I64 q.x.who := HX.out.1.who
      have hkP : q.x.key ∈ P := HX.out.1.k
      have hEl : E.length ≤ 1000000 := HFE.out.hl (by omega)
      have H13 : Hid (∀ W, Keeps [] w7 W → Calls Tryz.prog 13 #[.slice B1 ql.length n1, .slice B2 ql.length n2] W fun e w' => e = .returned (.bool true) ∧ Keeps [] W w') := Lib.hid (fun W hk => same_eq (own_keep O6'.out hk (by simp)) (own_keep O7.out hk (by simp)) HQL.out)
      have H14 : Hid (∀ W, Keeps [] w7 W → Calls Tryz.prog 14 #[.pointer (some ⟨c, 0, none⟩), .int .i64 q.x.who] W fun e w' => e = .returned (.bool (validP E q.x.who)) ∧ Keeps [] W w') := Lib.hid (fun W hk => by
        obtain ⟨F1, G1, hC1, _⟩ := HB.out.left
        exact valid_any (hC1.keep0 hk) HFE.out.wf HP.out hiz)
      have H15 : Hid (∀ W, Keeps [] w7 W → Calls Tryz.prog 15 #[.pointer (some ⟨d, 0, none⟩), .int .i64 q.x.who] W fun e w' => e = .returned (.bool (validP E q.x.who)) ∧ Keeps [] W w') := Lib.hid (fun W hk => by
        obtain ⟨F1, G1, hR1⟩ := HB.out.right
        exact rValid_any (hR1.keep0 hk) HFE.out.wf HP.out hEl _)
      have H16 : Hid (∀ W, Keeps [] w7 W → Calls Tryz.prog 16 #[.pointer (some ⟨c, 0, none⟩), .int .i64 q.x.who, sv q.x.key] W fun e w' => e = .returned (sv (sees E q.x.who q.x.key)) ∧ Keeps [] W w') := Lib.hid (fun W hk => by
        obtain ⟨F1, G1, hC1, _⟩ := HB.out.left
        refine (seesOp_any (hC1.keep0 hk) HFE.out.wf hiz _ (HP.out.k _ hkP)).mono ?_
        rintro e w' ⟨rfl, rfl⟩
        exact ⟨rfl, Keeps.refl _ _⟩)
      have H17 : Hid (∀ W, Keeps [] w7 W → Calls Tryz.prog 17 #[.pointer (some ⟨d, 0, none⟩), .int .i64 q.x.who, sv q.x.key] W fun e w' => e = .returned (sv (sees E q.x.who q.x.key)) ∧ Keeps [] W w') := Lib.hid (fun W hk => by
        obtain ⟨F1, G1, hR1⟩ := HB.out.right
        exact rSees HFE.out.wf HP.out hEl (hR1.keep0 hk) _ _)
      have H18 : Hid (∀ W, Keeps [] w7 W → Calls Tryz.prog 18 #[.pointer (some ⟨c, 0, none⟩), .int .i64 q.x.who, sv q.x.key] W fun e w' => (∃ A d, e = .returned (.slice A (seesKeys E q.x.who q.x.key).length d) ∧ w'.ownsRow 0 9 1 (.slice A (seesKeys E q.x.who q.x.key).length d) (seesKeys E q.x.who q.x.key).length (vs (seesKeys E q.x.who q.x.key))) ∧ Keeps [] W w') := Lib.hid (fun W hk => by
        obtain ⟨F1, G1, hC1, _⟩ := HB.out.left
        refine (seesKeysOp_any (hC1.keep0 hk) HFE.out.wf HP.out hiz _ (HP.out.k _ hkP)).mono ?_
        rintro e w' ⟨⟨v, rfl, o1, -⟩, k1⟩
        obtain ⟨A', d', rfl, -, -, -⟩ := own_shape o1
        exact ⟨⟨A', d', rfl, o1⟩, k1⟩)
      have H19 : Hid (∀ W, Keeps [] w7 W → Calls Tryz.prog 19 #[.pointer (some ⟨d, 0, none⟩), .int .i64 q.x.who, sv q.x.key] W fun e w' => (∃ A d, e = .returned (.slice A (seesKeys E q.x.who q.x.key).length d) ∧ w'.ownsRow 0 9 1 (.slice A (seesKeys E q.x.who q.x.key).length d) (seesKeys E q.x.who q.x.key).length (vs (seesKeys E q.x.who q.x.key))) ∧ Keeps [] W w') := Lib.hid (fun W hk => by
        obtain ⟨F1, G1, hR1⟩ := HB.out.right
        refine (rSeesKeys HFE.out.wf HP.out hEl (hR1.keep0 hk) _ _).mono ?_
        rintro e w' ⟨⟨v, rfl, o1, -⟩, k1⟩
        obtain ⟨A', d', rfl, -, -, -⟩ := own_shape o1
        exact ⟨⟨A', d', rfl, o1⟩, k1⟩)
      have HQ2 := Lib.hid (seesKeys_len HFE.out.wf HP.out q.x.who q.x.key)
      clear hiz hkP hEl HX HG O6' O7 HQL
      generalize q.x.who = id at HS H14 H15 H16 H17 H18 H19 HQ2
      generalize q.x.key = ky at HS H16 H17 H18 H19 HQ2
      generalize validP E id = b at H14 H15
      generalize sees E id ky = s2 at H16 H17
      generalize seesKeys E id ky = q2 at H18 H19 HQ2
      go_upto_region 11 with fail
      refine tellR11_any w7 c d bl off L.length ca j n1 n2 B1 B2 id zz ky s s2 ql q2 b _ HS.out H13.out H14.out H15.out H16.out H17.out H18.out H19.out HQ2.out j0 j1 _ _ _ _ _ _ _ _ _ _ _ _ _ _ _ _ _ _ _ _ _ _ _ _ _ _ _ _ _ _ _ _ _ _ _ _ _ _ _ _ _ _ _ _ _ _ _ _ _ _ _ _ _ _ _ _ _ _ _ _ _ _ _ _ _ _ _ _ _ _ _ _ _ _ _ _ _ _ _ _ _ _ _ _ _ _ _ _ _ _ _ _ _ _ _ _ _ _ _ _ _ _ _ _ _ _ _ _ _ _ _ _ _ _ _ _ _ _ _ _ _ _ _ _ _ _ _ _ _ _ _ _ _ _ _ _ _ _ _ _ _ _ _ _ _ _ _ _ _ _ _ _ _ _ _ _ _ _ _ _ _ _ _ _ _ _ _ _ _ _ _ _ _ _ _ _ _ _ _ _ _ _ _ _ _ _ _ _ _ _ _ _ _ _ _ _ _ _ _ _ _ _ _ _ _ _ _ _ _ _ _ _ _ _ _ ?_
      intro v59 v60 v61 v62 v63 v64 v65 v66 v67 v68 v69 v70 v71 v72 v73 v74 v75 v76 v77 v78 v79 v80 v81 v82 v83 v84 v85 v86 v87 v88 v89 v90 v91 v92 v93 v94 v95 v96 v97 v98 v99 v100 v101 v102 v103 v104 v105 v106 v107 v108 v109 v110 v111 v112 v113 v114 v115 v116 v117 v118 v119 v120 v121 v122 v123 v124 v125 v126 v127 v128 v129 v130 v131 v132 v133 v134 v135 v136 v137 v138 v139 v140 v141 v142 v143 W hk
      have HBN := Lib.hid (HB.out.keep0 hk)
      clear hk HS H13 H14 H15 H16 H17 H18 H19 HQ2 HB
      go_wp2_with fail
      exact ⟨⟨j + 1, E, by omega, rfl, HBN.out, HFE.out⟩, by simp only [intOf]; omega⟩
    · obtain rfl : j = L.length := by omega
      have i1 : ¬ ((L.length : Int) < (L.length : Int)) := by omega
      have HI3 := Lib.hid info3w
      have CL : Hid (Calls Tryz.prog 20 #[.pointer (some ⟨c, 0, none⟩)] wa fun e w' => ∃ v, e = .returned v ∧ w'.ownsRow 0 3 1 v (liveP C).length (zs (liveP C)) ∧ Keeps [] wa w' ∧ ∀ g ∈ fp v, wa.heap.size ≤ g) := Lib.hid (by
        obtain ⟨F1, G1, hC1, _⟩ := HB.out.left
        exact live_any hC1 HF.out.wf (HF.out.hl (by omega)))
      have CR : Hid (∀ W, Keeps [] wa W → Calls Tryz.prog 22 #[.pointer (some ⟨d, 0, none⟩)] W fun e w' => (∃ v, e = .returned v ∧ w'.ownsRow 0 3 1 v (liveP C).length (zs (liveP C))) ∧ Keeps [] W w') := Lib.hid (fun W hk => by
        obtain ⟨F1, G1, hR1⟩ := HB.out.right
        exact rLive_any (hR1.keep0 hk) HF.out.wf.tree (by have := HF.out.len; omega))
      have HZI : Hid (∀ z ∈ liveP C ++ [0, -1], I64 z) := Lib.hid (fun z hz => by
        rcases List.mem_append.1 hz with hz | hz
        · exact live_i64 HF.out.wf hz
        · simp only [List.mem_cons, List.not_mem_nil, or_false] at hz
          rcases hz with rfl | rfl <;> exact ⟨by omega, by omega⟩)
      have hNm : (liveP C).length ≤ 100 := by have := live_len (C := C); have := HF.out.len; omega
      obtain ⟨lv, hlv⟩ : ∃ lv, liveP C = lv := ⟨_, rfl⟩
      rw [hlv] at CL CR HZI hNm
      clear hlv
      go_wp2_with fail
      refine CL.out.mono ?_
      rintro e w6 ⟨v1, rfl, o1, k1, f1⟩
      obtain ⟨B1, d1, rfl, -, -, -⟩ := own_shape o1
      have F1 : Hid (∀ g ∈ fp (.slice B1 lv.length d1), wa.heap.size ≤ g) := Lib.hid f1
      have O6 := Lib.hid o1
      have K6 := Lib.hid k1
      clear o1 k1 f1 CL
      go_wp2_with fail
      refine (CR.out _ K6.out).mono ?_
      rintro e w7 ⟨⟨v2, rfl, o2⟩, k2⟩
      obtain ⟨B2, d2, rfl, -, -, -⟩ := own_shape o2
      have O7 := Lib.hid (own_keep O6.out k2 (by simp))
      have R7 := Lib.hid o2
      have K7 := Lib.hid (K6.out.trans k2 (by simp))
      clear o2 k2 CR O6 K6
      go_wp2_with fail
      refine (ints_any w7 B1 B2 lv lv d1 d2 (AtZ.of_own O7.out (by omega)) (AtZ.of_own R7.out (by omega))).mono ?_
      rw [decide_eq_true (rfl : lv = lv)]
      rintro e w8 ⟨rfl, k3⟩
      obtain ⟨N, hN⟩ : ∃ N, lv.length = N := ⟨_, rfl⟩
      have e1 : zs lv ++ [.int .i64 0, .int .i64 (-1)] = zs (lv ++ [0, -1]) := by simp [zs]
      have e2 : (lv ++ [0, -1]).length = N + 2 := by simp [hN]
      have O1 := Lib.hid (own_keep (own_keep O7.out k3 (by simp)) ((Keeps.refl [] w8).alloc (.cells #[.int .i64 0, .int .i64 (-1)] 3)) (by simp))
      have KA := Lib.hid ((K7.out.trans k3 (by simp)).alloc (.cells #[.int .i64 0, .int .i64 (-1)] 3))
      have RB := Lib.hid (reads_cells w8 #[.int .i64 0, .int .i64 (-1)] 2 1 3 rfl)
      rw [hN] at O1 F1 hNm ⊢
      obtain ⟨Q, hQ⟩ : ∃ Q, lv ++ [0, -1] = Q := ⟨_, rfl⟩
      rw [hQ] at e1 e2 HZI
      have E1 := Lib.hid e1
      have E2 := Lib.hid e2
      clear k3 O7 R7 K7 hQ e1 e2 hN
      go_wp2_with (at_builtin; refine wpList_app _ rfl (.tmp 152) (.tmp 153) _ rfl 3 (.int .i64 0) 1 8 Tryz.underlying42 HI3.out rfl (by omega) (.slice B1 N d1) _ _ rfl O1.out _ _ _ _ [.int .i64 0, .int .i64 (-1)] rfl RB.out (zs_one [0, -1]) (by unfold maxLen; omega) (by omega) ?_)
      intro v2 w9 o2 k2 _
      have K9 : Hid (Keeps [] wa w9) := Lib.hid (KA.out.trans k2 (fun g hg => .inr (F1.out g hg)))
      rw [E1.out, ← E2.out] at o2
      obtain ⟨B3, d3, rfl, -, -, -⟩ := own_shape o2
      have HB9 := Lib.hid (HB.out.keep0 K9.out)
      have HO9 := Lib.hid o2
      have hq1 := E2.out
      obtain ⟨m, hm⟩ : ∃ m, Q.length = m := ⟨_, rfl⟩
      have hmm : m ≤ 102 := by omega
      rw [hm] at HO9 ⊢
      have HM := Lib.hid hm
      clear o2 k2 KA O1 RB E1 E2 F1 HI3 hq1 hm hNm K9 HB
      go_wp2_with fail
      go_loopw [14, 15, 16, 17] (fun iv _ _ _ wr => ∃ k : Nat, k ≤ m ∧ iv = .int .i64 k ∧ Keeps [] w9 wr) (fun iv _ _ _ _ => m - (intOf iv).toNat)
      case atStart => exact ⟨0, by omega, rfl, Keeps.refl _ _⟩
      case round =>
        obtain ⟨k, hk, rfl, hkr⟩ := hrel
        obtain ⟨wo, rfl⟩ : ∃ wo, wo = wr := ⟨_, rfl⟩
        have KR := Lib.hid hkr
        clear hkr
        have HO := Lib.hid (own_keep HO9.out KR.out (by simp))
        have HB := Lib.hid (HB9.out.keep0 KR.out)
        by_cases hkm : k < m
        · obtain ⟨bq, oq, hBB, hcell⟩ := at_own HO.out (by omega)
          have hkQ : k < Q.length := by rw [HM.out]; exact hkm
          have hc := hcell k (.int .i64 Q[k]) (by simp [zs, hkQ])
          have hiq := HZI.out _ (List.getElem_mem hkQ)
          obtain ⟨z, hz⟩ : ∃ z, Q[k] = z := ⟨_, rfl⟩
          rw [hz] at hc hiq
          subst hBB
          have k0 : (0 : Int) ≤ (k : Int) := by omega
          have k1 : (k : Int) < (m : Int) := by omega
          have HA1 : Hid (Asks wo c z (namesP C z) (wrP C z) (rdsP C z) (validP C z) (logsP C z)) := Lib.hid (by
            obtain ⟨F1, G1, hC1, _⟩ := HB.out.left
            exact hC1.asks HF.out.wf HP.out hiq)
          have HA2 : Hid (RAsks wo d z (namesP C z) (wrP C z) (rdsP C z) (validP C z) (logsP C z)) := Lib.hid (by
            obtain ⟨F1, G1, hR1⟩ := HB.out.right
            exact hR1.asks HF.out.wf HP.out (HF.out.hl (by omega)) z)
          have HN0 := Lib.hid (names_len HF.out.wf HP.out z)
          have HR1 := Lib.hid (rds_lst HF.out.wf HP.out z)
          have HR2 := Lib.hid (rds_len HF.out.wf HP.out z)
          clear hcell hz hiq hkQ HO HB
          generalize namesP C z = n at HA1 HA2 HN0
          generalize wrP C z = mw at HA1 HA2
          generalize rdsP C z = r at HA1 HA2 HR1 HR2
          generalize validP C z = b at HA1 HA2
          generalize logsP C z = lg at HA1 HA2
          have hnl : n.length ≤ 1000000 := HN0.out
          go_wp2_with fail
          refine (HA2.out.nm wo (Keeps.refl _ _)).mono ?_
          rintro e x1 ⟨⟨A1, cc, rfl, h1⟩, k1'⟩
          have HN1 := Lib.hid h1
          have K1 := Lib.hid k1'
          clear h1 k1'
          go_wp2_with fail
          refine (HA1.out.wr _ K1.out).mono ?_
          rintro e x2 ⟨⟨B, bc, rfl, h1⟩, k1'⟩
          have HBW := Lib.hid h1
          have K2 := Lib.hid (K1.out.trans k1' (by simp))
          have HN2 := Lib.hid (own_keep HN1.out k1' (by simp))
          clear h1 k1' K1 HN1
          go_wp2_with fail
          refine (HA2.out.wr _ K2.out).mono ?_
          rintro e x3 ⟨⟨B2, bc2, rfl, h1⟩, k1'⟩
          have HBB := Lib.hid h1
          have HBA := Lib.hid (HBW.out x3 k1')
          have K3 := Lib.hid (K2.out.trans k1' (by simp))
          have HN3 := Lib.hid (own_keep HN2.out k1' (by simp))
          clear h1 k1' K2 HN2 HBW
          go_wp2_with fail
          refine (pairs_any x3 B B2 mw mw bc bc2 HBA.out HBB.out).mono ?_
          rw [decide_eq_true (rfl : mw = mw)]
          rintro e x4 ⟨rfl, k1'⟩
          have K4 := Lib.hid (K3.out.trans k1' (by simp))
          have HN4 := Lib.hid (own_keep HN3.out k1' (by simp))
          clear k1' K3 HN3 HBA HBB
          go_wp2_with fail
          refine (HA1.out.rd _ K4.out).mono ?_
          rintro e x5 ⟨⟨E, ec, rfl, h1⟩, k1'⟩
          have HE := Lib.hid h1
          have K5 := Lib.hid (K4.out.trans k1' (by simp))
          have HN5 := Lib.hid (own_keep HN4.out k1' (by simp))
          clear h1 k1' K4 HN4
          go_wp2_with fail
          refine (HA2.out.rd _ K5.out).mono ?_
          rintro e x6 ⟨⟨E2, ec2, rfl, h1⟩, k1'⟩
          have HE2 := Lib.hid h1
          have HE1 := Lib.hid (HE.out.keep0 k1')
          have K6 := Lib.hid (K5.out.trans k1' (by simp))
          have HN6 := Lib.hid (own_keep HN5.out k1' (by simp))
          clear h1 k1' K5 HN5 HE
          go_wp2_with fail
          refine (sameReads_eq x6 E E2 r ec ec2 HE1.out HE2.out HR1.out HR2.out).mono ?_
          rintro e x7 ⟨rfl, k1'⟩
          have K7 := Lib.hid (K6.out.trans k1' (by simp))
          have HN7 := Lib.hid (own_keep HN6.out k1' (by simp))
          clear k1' K6 HN6 HE1 HE2
          go_wp2_with fail
          refine (HA1.out.nm _ K7.out).mono ?_
          rintro e x8 ⟨⟨A2, cc2, rfl, h1⟩, k1'⟩
          have HM8 := Lib.hid h1
          have K8 := Lib.hid (K7.out.trans k1' (by simp))
          have HN8 := Lib.hid (own_keep HN7.out k1' (by simp))
          clear h1 k1' K7 HN7
          go_wp2_with fail
          refine (same_eq HM8.out HN8.out hnl).mono ?_
          rintro e x9 ⟨rfl, k1'⟩
          have K9 := Lib.hid (K8.out.trans k1' (by simp))
          have HN9 := Lib.hid (own_keep HN8.out k1' (by simp))
          clear k1' K8 HN8 HM8
          go_wp2_with fail
          refine (HA1.out.vl _ K9.out).mono ?_
          rintro e x10 ⟨rfl, k1'⟩
          have K10 := Lib.hid (K9.out.trans k1' (by simp))
          have HN10 := Lib.hid (own_keep HN9.out k1' (by simp))
          clear k1' K9 HN9
          go_wp2_with fail
          refine (HA2.out.vl _ K10.out).mono ?_
          rintro e x11 ⟨rfl, k1'⟩
          have K11 := Lib.hid (K10.out.trans k1' (by simp))
          have HN11 := Lib.hid (own_keep HN10.out k1' (by simp))
          clear k1' K10 HN10
          have hbb : (b != b) = false := by cases b <;> rfl
          go_wp2_with fail
          go_loopw [17] (fun iv wr => ∃ l : Nat, l ≤ n.length ∧ iv = .int .i64 l ∧ Keeps [] wo wr ∧ wr.ownsRow 0 9 1 (.slice A1 n.length cc) n.length (vs n)) (fun iv _ => n.length - (intOf iv).toNat)
          case atStart => exact ⟨0, by omega, rfl, K11.out, HN11.out⟩
          case round =>
            obtain ⟨l, hl, rfl, hkr, hnr⟩ := hrel
            clear K11 HN11
            have KR2 := Lib.hid hkr
            have HN := Lib.hid hnr
            clear hkr hnr
            by_cases hltn : l < n.length
            · obtain ⟨A', c', hv, -, -, hA⟩ := own_shape HN.out
              obtain ⟨g1, hg1⟩ := hA (by omega)
              obtain ⟨rfl, -, rfl⟩ : A1 = A' ∧ n.length = n.length ∧ cc = c' := by injection hv with h1 h2 h3; exact ⟨h1, rfl, h3⟩
              subst hg1
              have y0 : (0 : Int) ≤ (l : Int) := by omega
              have y1 : (l : Int) < (n.length : Int) := by omega
              have HS : Hid (∀ W, Keeps [] wr W → W.cell? ⟨g1, l, none⟩ = some (sv n[l])) := Lib.hid (fun W hk => by
                have x1 := own_keep HN.out hk (by simp)
                have := own_cell x1 (j := l) (u := sv n[l]) (by simp [vs, hltn])
                exact this)
              have HCL : Hid (∀ W, Keeps [] wr W → Calls Tryz.prog 31 #[.pointer (some ⟨c, 0, none⟩), .int .i64 z, sv n[l]] W fun e w' => e = .returned (sv (lg n[l])) ∧ Keeps [] W w') := Lib.hid (fun W hk => HA1.out.lg W (KR2.out.trans hk (by simp)) _ (List.getElem_mem hltn))
              have HDL : Hid (∀ W, Keeps [] wr W → Calls Tryz.prog 32 #[.pointer (some ⟨d, 0, none⟩), .int .i64 z, sv n[l]] W fun e w' => e = .returned (sv (lg n[l])) ∧ Keeps [] W w') := Lib.hid (fun W hk => HA2.out.lg W (KR2.out.trans hk (by simp)) _)
              clear hv hA
              go_upto_region 27 with fail
              refine tellR27_any wr c d g1 n.length cc l z n[l] (lg n[l]) _ HS.out HCL.out HDL.out y0 y1 _ _ _ _ _ _ _ _ _ _ _ _ _ _ _ _ _ _ _ _ _ _ _ _ _ _ _ _ _ _ _ _ _ _ _ _ _ _ _ _ _ _ _ _ _ _ _ _ _ _ _ _ _ _ _ _ _ _ _ _ _ _ _ _ _ _ _ _ _ _ _ _ _ _ _ _ _ _ _ _ _ _ _ _ _ _ _ _ _ _ _ _ _ _ _ _ _ _ _ _ _ _ _ _ _ _ _ _ _ _ _ _ _ _ _ _ _ _ _ _ _ _ _ _ _ _ _ _ _ _ _ _ _ _ _ _ _ _ _ _ _ _ _ _ _ _ _ _ _ _ _ _ _ _ _ _ _ _ _ _ _ _ _ _ _ _ _ _ _ _ _ _ _ _ _ _ _ _ _ _ _ _ _ _ _ _ _ _ _ _ _ _ _ _ _ _ _ _ _ _ _ _ _ _ _ _ _ _ _ _ _ _ _ _ _ _ _ _ _ _ ?_
              intro v209 v210 v211 v212 v213 v214 v215 v216 v217 v218 v219 v220 v221 v222 W hk
              have KN := Lib.hid (KR2.out.trans hk (by simp))
              have HNN := Lib.hid (own_keep HN.out hk (by simp))
              clear hk HS HCL HDL
              go_wp2_with fail
              exact ⟨⟨l + 1, by omega, rfl, KN.out, HNN.out⟩, by simp only [intOf]; omega⟩
            · obtain rfl : l = n.length := by omega
              have y1 : ¬ ((n.length : Int) < (n.length : Int)) := by omega
              have KN := Lib.hid (KR.out.trans KR2.out (by simp))
              go_wp2_with fail
              exact ⟨⟨k + 1, by omega, rfl, KN.out⟩, by simp only [intOf]; omega⟩
        · obtain rfl : k = m := by omega
          have k1 : ¬ ((k : Int) < (k : Int)) := by omega
          go_wp2_with fail
          go_ret
          exact ⟨rfl, HB.out.k⟩
end Go.Proofs.YtbllmpcpfmlemaaGreat
