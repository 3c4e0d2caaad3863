/- W48, over the merged texts. -/
import Derived.Test.YtbllmpcpfmlemaaMX
namespace Go.Proofs.Ytbllmpcpfmlemaa
open Go.RowKit

theorem info27w : (Try.prog.info? 27).map (fun i => (i.zero, i.size, i.bytes)) = some (some (.slice none 0 0), 1, 24) := by kernel_rfl
set_option maxRecDepth 1000000 in
set_option maxHeartbeats 51200000 in
theorem sequential_walk (w : World) (A A2 A3 : Option Addr) (L M O : List Oq) (ca cb cc : Nat) (p : Int) (hA : AtO w A L) (hB : AtO w A2 M) (hD : AtO w A3 O) (hi : I64 p) :
    Calls Try.prog 4 #[.slice A L.length ca, .int .i64 p, .slice A2 M.length cb, .slice A3 O.length cc] w fun e w' => e = .returned (.bool true) ∧ Keeps [] w w' := by
  have HL := Lib.hid hA
  have HM := Lib.hid hB
  have HO := Lib.hid hD
  have mL := hA.mx
  have mM := hB.mx
  have mO := hD.mx
  have HI := Lib.hid hi
  have HI0 : Hid (I64 1000000) := Lib.hid ⟨by omega, by omega⟩
  have CS := Lib.hid (small_any w)
  clear hA hB hD hi
  go_enter Try.func4, Try.ntmps4
  go_wp2_with fail
  refine CS.out.mono ?_
  rintro e w1 ⟨rfl, k1⟩
  have K1 := Lib.hid k1
  clear k1 CS
  go_wp2_with fail
  refine (new_any w1).mono ?_
  rintro e w2 ⟨c, F, rfl, hc, hF, k2⟩
  have HT : Hid (Sta w w2 c new0 [] []) := Lib.hid (Sta.of ⟨F, [], hc, fun g hg => Nat.le_trans K1.out.size (hF g hg), K1.out.trans k2 (by simp)⟩)
  clear hc hF k2 K1
  have CF := Lib.hid (few_any w2 A L ca 30 (HL.out.keep HT.out.k))
  have CG := Lib.hid (few_any w2 A2 M cb 30 (HM.out.keep HT.out.k))
  have CH := Lib.hid (few_any w2 A3 O cc 30 (HO.out.keep HT.out.k))
  obtain ⟨V, hV⟩ : ∃ V, fewB L 30 = V := ⟨_, rfl⟩
  obtain ⟨V2, hV2⟩ : ∃ V, fewB M 30 = V := ⟨_, rfl⟩
  obtain ⟨V3, hV3⟩ : ∃ V, fewB O 30 = V := ⟨_, rfl⟩
  rw [hV] at CF
  rw [hV2] at CG
  rw [hV3] at CH
  have HV := Lib.hid hV
  have HV2 := Lib.hid hV2
  have HV3 := Lib.hid hV3
  clear hV hV2 hV3
  cases V with
  | false =>
    go_wp2_with fail
    refine CF.out.mono ?_
    rintro e w3 ⟨rfl, rfl⟩
    go_wp2_with fail
    go_ret
    exact ⟨rfl, HT.out.k⟩
  | true =>
  cases V2 with
  | false =>
    go_wp2_with fail
    refine CF.out.mono ?_
    rintro e w3 ⟨rfl, rfl⟩
    go_wp2_with fail
    refine CG.out.mono ?_
    rintro e w4 ⟨rfl, rfl⟩
    go_wp2_with fail
    go_ret
    exact ⟨rfl, HT.out.k⟩
  | true =>
  cases V3 with
  | false =>
    go_wp2_with fail
    refine CF.out.mono ?_
    rintro e w3 ⟨rfl, rfl⟩
    go_wp2_with fail
    refine CG.out.mono ?_
    rintro e w4 ⟨rfl, rfl⟩
    go_wp2_with fail
    refine CH.out.mono ?_
    rintro e w5 ⟨rfl, rfl⟩
    go_wp2_with fail
    go_ret
    exact ⟨rfl, HT.out.k⟩
  | true =>
  have l1 : L.length ≤ 30 := by have := (few_spec HV.out).1; omega
  have l2 : M.length ≤ 30 := by have := (few_spec HV2.out).1; omega
  have l3 : O.length ≤ 30 := by have := (few_spec HV3.out).1; omega
  obtain ⟨P, hP1, hP2, hP3, hP4⟩ : ∃ P, PoolOk P ∧ (∀ k ∈ poolL L, k ∈ P) ∧ (∀ k ∈ poolL M, k ∈ P) ∧ (∀ k ∈ poolL O, k ∈ P) := by
    refine ⟨poolL L ++ poolL M ++ poolL O, PoolOk.mk' (fun s hs => ?_) ?_, fun k hk => by simp [hk], fun k hk => by simp [hk], fun k hk => by simp [hk]⟩
    · rw [List.mem_append, List.mem_append] at hs
      rcases hs with (hs | hs) | hs
      · exact poolL_short HV.out s hs
      · exact poolL_short HV2.out s hs
      · exact poolL_short HV3.out s hs
    · have h1 := poolL_len (L := L) (fun q hq => ((few_spec HV.out).2 q hq).2.1)
      have h2 := poolL_len (L := M) (fun q hq => ((few_spec HV2.out).2 q hq).2.1)
      have h3 := poolL_len (L := O) (fun q hq => ((few_spec HV3.out).2 q hq).2.1)
      rw [List.length_append, List.length_append]
      omega
  have HP := Lib.hid hP1
  have HOKL := Lib.hid (OkL.of HL.out HV.out hP2)
  have HOKM := Lib.hid (OkL.of HM.out HV2.out hP3)
  have HOKO := Lib.hid (OkL.of HO.out HV3.out hP4)
  have HMS : Hid (∀ x ∈ M.map (·.x), OkO P x) := Lib.hid (fun x hx => by
    obtain ⟨q, hq, rfl⟩ := List.mem_map.1 hx
    exact (HOKM.out q hq).1)
  have HML : Hid ((M.map (·.x)).length = M.length) := Lib.hid (List.length_map _)
  have HMG : Hid (∀ k (h : k < M.length) (h2 : k < (M.map (·.x)).length), (M.map (·.x))[k] = M[k].x) := Lib.hid (fun k h h2 => List.getElem_map _)
  obtain ⟨ms, hms⟩ : ∃ ms, M.map (·.x) = ms := ⟨_, rfl⟩
  rw [hms] at HMS HML HMG
  clear hP1 hP2 hP3 hP4 HV HV2 HV3 hms
  go_wp2_with fail
  refine CF.out.mono ?_
  rintro e w3 ⟨rfl, rfl⟩
  clear CF
  go_wp2_with fail
  refine CG.out.mono ?_
  rintro e w3 ⟨rfl, rfl⟩
  clear CG
  go_wp2_with fail
  refine CH.out.mono ?_
  rintro e w3 ⟨rfl, rfl⟩
  clear CH
  go_wp2_with fail
  go_loopw [11] (fun iv wr => ∃ (k : Nat) (C : St), k ≤ L.length ∧ iv = .int .i64 k ∧ Sta w wr c C [] [] ∧ Fit P k C) (fun iv _ => L.length - (intOf iv).toNat)
  case atStart => exact ⟨0, new0, by omega, rfl, HT.out, Fit.new0 P⟩
  case round =>
    obtain ⟨k, C, hk, rfl, ho, hf⟩ := hrel
    clear HT
    have HT := Lib.hid ho
    have HF := Lib.hid hf
    clear ho hf
    by_cases hlt : k < L.length
    · obtain ⟨bl, off, hAA, c0, c1, c2, c3, c4, c5, c6, c7, c8⟩ := (HL.out.keep HT.out.k).get hlt
      have HX := Lib.hid (HOKL.out _ (List.getElem_mem hlt))
      have HZ := Lib.hid ((HL.out.keep HT.out.k).ml _ (List.getElem_mem hlt) HX.out.2)
      subst hAA
      obtain ⟨q, hq⟩ : ∃ q, L[k] = q := ⟨_, rfl⟩
      rw [hq] at c0 c1 c2 c3 c4 c5 c6 c7 c8 HX HZ
      have HQE := Lib.hid hq
      clear hq
      have i0 : (0 : Int) ≤ (k : Int) := by omega
      have i1 : (k : Int) < (L.length : Int) := by omega
      go_wp2_with fail
      refine (do_sta HT.out HF.out (by omega) HP.out q.x HX.out.1 q.A q.c HZ.out).mono ?_
      rintro e w5 ⟨⟨v, rfl, -, -⟩, ho5, -⟩
      have HO5 := Lib.hid ho5
      have HF5 : Hid (Fit P (k + 1) (doP C q.x).2) := Lib.hid (HF.out.do_ HX.out.1.p HX.out.1.n.2 HX.out.1.v)
      clear ho5 HT HF HX HZ HQE c0 c1 c2 c3 c4 c5 c6 c7 c8
      go_wp2_with fail
      exact ⟨⟨k + 1, _, by omega, rfl, HO5.out, HF5.out⟩, by simp only [intOf]; omega⟩
    · obtain rfl : k = L.length := by omega
      have i1 : ¬ ((L.length : Int) < (L.length : Int)) := by omega
      have hf30 := HF.out.mono l1
      clear HF
      have HF := Lib.hid hf30
      clear hf30
      have CB := Lib.hid (HT.out.calls (fun F G hC => beginOp_any hC HF.out.wf.tree (HF.out.hl (by omega)) HI0.out HI.out))
      obtain ⟨Bc, hBc⟩ : ∃ Bc, (beginP C 1000000 p).1 = Bc := ⟨_, rfl⟩
      rw [hBc] at CB
      have HBc := Lib.hid hBc
      clear hBc
      by_cases hB : Bc = 0
      rotate_left
      · have hB1 : (Bc == 0) = false := by simpa using hB
        go_wp2_with fail
        refine CB.out.mono ?_
        rintro e w5 ⟨rfl, ho5, -⟩
        have HO5 := Lib.hid ho5
        clear ho5
        go_wp2_with fail
        go_ret
        exact ⟨rfl, HO5.out.k⟩
      subst hB
      go_wp2_with fail
      refine CB.out.mono ?_
      rintro e w5 ⟨rfl, ho5, -⟩
      have HR0 := Lib.hid (Rec.nil ho5.own)
      have HS0 := Lib.hid (SeqI.start (ms := ms) HF.out (by omega) (by omega) HBc.out)
      clear ho5 CB HBc HT HF i1
      go_wp2_with fail
      go_loopw [13, 14, 15, 16, 17, 18] (fun vg vl iv _ _ _ wr => ∃ (k : Nat) (C : St) (gs : List Str) (qs : List (List Str)) (rs : List Value) (T : List Nat), k ≤ 30 ∧ iv = .int .i64 k ∧ Rec w wr c C gs qs vg vl rs T ∧ SeqI P 1000000 p ms k (31 + 2 * k) C gs qs rs) (fun _ _ iv _ _ _ _ => 30 - (intOf iv).toNat)
      case atStart => exact ⟨0, _, [], [], [], [], by omega, rfl, HR0.out, HS0.out⟩
      case round =>
        obtain ⟨k, C1, gs, qs, rs, T, hk, rfl, hr, hs⟩ := hrel
        clear HR0 HS0
        have HR := Lib.hid hr
        have HS := Lib.hid hs
        clear hr hs
        by_cases hlm : k < M.length
        · have hlt := hlm
          obtain ⟨bl, off, hAA, c0, c1, c2, c3, c4, c5, c6, c7, c8⟩ := (HM.out.keep HR.out.sta.k).get hlt
          have HX := Lib.hid (HOKM.out _ (List.getElem_mem hlt))
          have HZ := Lib.hid ((HM.out.keep HR.out.sta.k).ml _ (List.getElem_mem hlt) HX.out.2)
          subst hAA
          obtain ⟨q, hq⟩ : ∃ q, M[k] = q := ⟨_, rfl⟩
          rw [hq] at c0 c1 c2 c3 c4 c5 c6 c7 c8 HX HZ
          have HQE := Lib.hid hq
          clear hq
          have i0 : (0 : Int) ≤ (k : Int) := by omega
          have i1 : (k : Int) < (M.length : Int) := by omega
          have hlms : k < ms.length := by rw [HML.out]; exact hlm
          have hqx : ms[k] = q.x := by rw [HMG.out k hlm hlms, HQE.out]
          have hgl := HS.out.len
          obtain ⟨g1, g2, g3⟩ := hgl
          have hgk : gs.length = k := by omega
          have hqk : qs.length = k := by omega
          have hrk : rs.length = k := by omega
          have HGK := Lib.hid hgk
          have HQK := Lib.hid hqk
          have HRK := Lib.hid hrk
          have HS2 : Hid (∀ v, SeqI P 1000000 p ms (k + 1) (32 + 2 * k) (doP C1 (asP q.x 1000000)).2 (gs ++ [(doP C1 (asP q.x 1000000)).1.1]) (qs ++ [(doP C1 (asP q.x 1000000)).1.2.1]) (rs ++ [v])) := Lib.hid (fun v => by
            have h1 := HS.out.mine (by omega) hlms (by rw [hqx]; exact HX.out.1) v
            rw [hqx] at h1
            exact h1.mono (by omega))
          have HFT := Lib.hid HS.out.fit
          clear g1 g2 g3 hgk hqk hrk hqx hlms HS
          go_wp2_with fail
          refine (as_any wr q.x q.A q.c 1000000).mono ?_
          rintro e w6 ⟨rfl, k6⟩
          have HR6 := Lib.hid (HR.out.keep0 k6)
          have HZ6 := Lib.hid (HZ.out.keep k6)
          clear k6 HR HZ c0 c1 c2 c3 c4 c5 c6 c7 c8
          have CD := Lib.hid (do_sta HR6.out.sta HFT.out (by omega) HP.out (asP q.x 1000000) (HX.out.1.as HI0.out) q.A q.c HZ6.out)
          obtain ⟨dr, hdr⟩ : ∃ dr, doP C1 (asP q.x 1000000) = dr := ⟨_, rfl⟩
          rw [hdr] at CD HS2
          obtain ⟨⟨ds, dl, dn⟩, DC⟩ := dr
          dsimp only at CD HS2
          clear hdr
          go_wp2_with fail
          refine CD.out.mono ?_
          rintro e w7 ⟨⟨v7, rfl, o7, f7⟩, hs7, kp⟩
          obtain ⟨B7, d7, rfl, -, -, -⟩ := own_shape o7
          have hr7 := HR6.out.turn hs7 kp
          have hv7 : ∀ g ∈ fp (.slice B7 dl.length d7), g ∉ fp u13 ++ fp u14 := by
            intro g hg he
            have h1 := f7 g hg
            have : g < w6.heap.size := by
              rcases List.mem_append.1 he with he | he
              · exact own_lt HR6.out.got he
              · exact own_lt HR6.out.lst he
            omega
          have HR7 := Lib.hid (hr7.addRow o7 hv7)
          have O7 := Lib.hid o7
          clear o7 f7 hs7 kp hr7 hv7 CD HR6 HZ6 HX HQE
          -- the string
          have GA : Hid ((w7.alloc (.cells #[sv ds] 9)).ownsRow 0 9 1 u13 k (vs gs)) := Lib.hid (by have := (HR7.out.keep0 ((Keeps.refl [] w7).alloc (.cells #[sv ds] 9))).got; rw [HGK.out] at this; exact this)
          have RB := Lib.hid (reads_blk (Blk.new w7 9 #[sv ds]) (xs := [sv ds]) (size := 1) rfl rfl)
          go_wp2_with (at_builtin; refine wpList_app _ rfl (.tmp 96) (.tmp 98) _ rfl 9 (.string ⟨#[]⟩) 1 16 Try.underlying27 info9 rfl (by omega) u13 k _ rfl GA.out _ _ _ _ [sv ds] rfl RB.out (vs_one [ds]) (by unfold maxLen; omega) (by omega) ?_)
          intro v8 w8 o8 k8 f8
          have HR8 := Lib.hid ((HR7.out.keep0 ((Keeps.refl [] w7).alloc (.cells #[sv ds] 9))).push (by rw [HGK.out]; exact o8) k8 (fun g hg => (f8 g hg).imp id (fun h => by simpa using h)))
          have O8 : Hid (w8.ownsRow 0 9 1 (.slice B7 dl.length d7) dl.length (vs dl)) := Lib.hid (own_keep (own_keep O7.out ((Keeps.refl [] w7).alloc (.cells #[sv ds] 9)) (by simp)) k8 (fun g hg e => HR7.out.off g (by simp [e]) (by simp [hg])))
          clear o8 k8 f8 GA RB HR7 O7
          -- the list
          have hone : ∀ u ∈ [Value.slice B7 dl.length d7], u.oneCell' = true := by intro u hu; rw [List.mem_singleton.1 hu]; rfl
          have HONE := Lib.hid hone
          have LA : Hid ((w8.alloc (.cells #[.slice B7 dl.length d7] 27)).ownsRow 0 27 1 u14 k rs) := Lib.hid (by have := (HR8.out.keep0 ((Keeps.refl [] w8).alloc (.cells #[.slice B7 dl.length d7] 27))).lst; rw [HQK.out] at this; exact this)
          have RB := Lib.hid (reads_blk (Blk.new w8 27 #[.slice B7 dl.length d7]) (xs := [.slice B7 dl.length d7]) (size := 1) rfl rfl)
          clear hone
          go_wp2_with (at_builtin; refine wpList_app _ rfl (.tmp 100) (.tmp 102) _ rfl 27 (.slice none 0 0) 1 24 Try.underlying46 info27w rfl (by omega) u14 k _ rfl LA.out _ _ _ _ [.slice B7 dl.length d7] rfl RB.out HONE.out (by unfold maxLen; omega) (by omega) ?_)
          intro v9 w9 o9 k9 f9
          have HR9 := Lib.hid ((HR8.out.keep0 ((Keeps.refl [] w8).alloc (.cells #[.slice B7 dl.length d7] 27))).pushL (q := dl) (v := .slice B7 dl.length d7) (by rw [HQK.out, HRK.out]) (by rw [HQK.out]; exact o9) (own_keep O8.out ((Keeps.refl [] w8).alloc (.cells #[.slice B7 dl.length d7] 27)) (by simp)) (fun g hg => by simp [hg]) k9 (fun g hg => (f9 g hg).imp id (fun h => by simpa using h)))
          have HS9 := Lib.hid (HS2.out (.slice B7 dl.length d7))
          clear o9 k9 f9 LA RB HR8 O8 HS2 HONE HGK HQK HRK HFT hlt
          obtain ⟨T9, hT9⟩ : ∃ T9, fp (.slice B7 dl.length d7) ++ T = T9 := ⟨_, rfl⟩
          rw [hT9] at HR9
          clear hT9
          by_cases hlo : k < O.length
          · have hlt := hlo
            obtain ⟨bl, off, hAA, c0, c1, c2, c3, c4, c5, c6, c7, c8⟩ := (HO.out.keep HR9.out.sta.k).get hlt
            have HX := Lib.hid (HOKO.out _ (List.getElem_mem hlt))
            have HZ := Lib.hid ((HO.out.keep HR9.out.sta.k).ml _ (List.getElem_mem hlt) HX.out.2)
            subst hAA
            obtain ⟨q, hq⟩ : ∃ q, O[k] = q := ⟨_, rfl⟩
            rw [hq] at c0 c1 c2 c3 c4 c5 c6 c7 c8 HX HZ
            have HQE := Lib.hid hq
            clear hq
            have i0 : (0 : Int) ≤ (k : Int) := by omega
            have i1 : (k : Int) < (O.length : Int) := by omega
            have HRo := Lib.hid (HR9.out.sta.k)
            by_cases hw : q.x.who = 1000000
            · have c1' := c1
              rw [hw] at c1'
              clear c1
              go_wp2_with fail
              exact ⟨⟨k + 1, _, _, _, _, _, by omega, rfl, HR9.out, HS9.out.mono (by omega)⟩, by simp only [intOf]; omega⟩
            have hw1 : (q.x.who == 1000000) = false := by simpa using hw
            have hw2 : (q.x.who != 1000000) = true := by simpa using hw
            by_cases hn : q.x.n = 1000000
            · have c2' := c2
              rw [hn] at c2'
              clear c2
              go_wp2_with fail
              exact ⟨⟨k + 1, _, _, _, _, _, by omega, rfl, HR9.out, HS9.out.mono (by omega)⟩, by simp only [intOf]; omega⟩
            have hn1 : (q.x.n == 1000000) = false := by simpa using hn
            have hn2 : (q.x.n != 1000000) = true := by simpa using hn
            have HS2 : Hid (SeqI P 1000000 p ms (k + 1) ((32 + 2 * k) + 1) (doP DC q.x).2 _ _ _) := Lib.hid (HS9.out.other HX.out.1 hw hn)
            go_wp2_with fail
            refine (do_sta HR9.out.sta HS9.out.fit (by omega) HP.out q.x HX.out.1 q.A q.c HZ.out).mono ?_
            rintro e w20 ⟨⟨v20, rfl, -, -⟩, hs20, kp⟩
            have HR2 := Lib.hid (HR9.out.turn hs20 kp)
            clear hs20 kp HR9 HS9 HX HZ c0 c1 c2 c3 c4 c5 c6 c7 c8
            go_wp2_with fail
            exact ⟨⟨k + 1, _, _, _, _, _, by omega, rfl, HR2.out, HS2.out.mono (by omega)⟩, by simp only [intOf]; omega⟩
          · have i3 : ¬ ((k : Int) < (O.length : Int)) := by omega
            go_wp2_with fail
            exact ⟨⟨k + 1, _, _, _, _, _, by omega, rfl, HR9.out, HS9.out.mono (by omega)⟩, by simp only [intOf]; omega⟩
        · have hge : ms.length ≤ k := by rw [HML.out]; omega
          have hss := HS.out.skip hge
          clear hge HS
          have HS := Lib.hid hss
          clear hss
          by_cases hlo2 : k < O.length
          · have im : ¬ ((k : Int) < (M.length : Int)) := by omega
            have io : (k : Int) < (O.length : Int) := by omega
            by_cases hlo : k < O.length
            · have hlt := hlo
              obtain ⟨bl, off, hAA, c0, c1, c2, c3, c4, c5, c6, c7, c8⟩ := (HO.out.keep HR.out.sta.k).get hlt
              have HX := Lib.hid (HOKO.out _ (List.getElem_mem hlt))
              have HZ := Lib.hid ((HO.out.keep HR.out.sta.k).ml _ (List.getElem_mem hlt) HX.out.2)
              subst hAA
              obtain ⟨q, hq⟩ : ∃ q, O[k] = q := ⟨_, rfl⟩
              rw [hq] at c0 c1 c2 c3 c4 c5 c6 c7 c8 HX HZ
              have HQE := Lib.hid hq
              clear hq
              have i0 : (0 : Int) ≤ (k : Int) := by omega
              have i1 : (k : Int) < (O.length : Int) := by omega
              have HRo := Lib.hid (HR.out.sta.k)
              by_cases hw : q.x.who = 1000000
              · have c1' := c1
                rw [hw] at c1'
                clear c1
                go_wp2_with fail
                exact ⟨⟨k + 1, _, _, _, _, _, by omega, rfl, HR.out, HS.out.mono (by omega)⟩, by simp only [intOf]; omega⟩
              have hw1 : (q.x.who == 1000000) = false := by simpa using hw
              have hw2 : (q.x.who != 1000000) = true := by simpa using hw
              by_cases hn : q.x.n = 1000000
              · have c2' := c2
                rw [hn] at c2'
                clear c2
                go_wp2_with fail
                exact ⟨⟨k + 1, _, _, _, _, _, by omega, rfl, HR.out, HS.out.mono (by omega)⟩, by simp only [intOf]; omega⟩
              have hn1 : (q.x.n == 1000000) = false := by simpa using hn
              have hn2 : (q.x.n != 1000000) = true := by simpa using hn
              have HS2 : Hid (SeqI P 1000000 p ms (k + 1) ((31 + 2 * k) + 1) (doP C1 q.x).2 _ _ _) := Lib.hid (HS.out.other HX.out.1 hw hn)
              go_wp2_with fail
              refine (do_sta HR.out.sta HS.out.fit (by omega) HP.out q.x HX.out.1 q.A q.c HZ.out).mono ?_
              rintro e w20 ⟨⟨v20, rfl, -, -⟩, hs20, kp⟩
              have HR2 := Lib.hid (HR.out.turn hs20 kp)
              clear hs20 kp HR HS HX HZ c0 c1 c2 c3 c4 c5 c6 c7 c8
              go_wp2_with fail
              exact ⟨⟨k + 1, _, _, _, _, _, by omega, rfl, HR2.out, HS2.out.mono (by omega)⟩, by simp only [intOf]; omega⟩
            · exact absurd hlo2 hlo
          · have im : ¬ ((k : Int) < (M.length : Int)) := by omega
            have io : ¬ ((k : Int) < (O.length : Int)) := by omega
            have hkm : ms.length ≤ k + 1 := by rw [HML.out]; omega
            obtain ⟨V, hV⟩ : ∃ V, validP C1 1000000 = V := ⟨_, rfl⟩
            have CV := valid_sta HR.out.sta HS.out.fit HP.out HI0.out
            rw [hV] at CV
            have CV := Lib.hid CV
            have HV := Lib.hid hV
            clear hV
            cases V with
            | false =>
              go_wp2_with fail
              refine CV.out.mono ?_
              rintro e w6 ⟨rfl, k6⟩
              have KK := Lib.hid (HR.out.sta.k.trans k6 (by simp))
              clear k6
              go_wp2_with fail
              go_ret
              exact ⟨rfl, KK.out⟩
            | true =>
            obtain ⟨e1, e2, e3, e4, e5, e6⟩ := HS.out.end_ (by omega) hkm HV.out
            obtain ⟨l4, l5, l6⟩ := HS.out.len
            have HG := Lib.hid (show gs.length = M.length by have := HML.out; omega)
            have HQ := Lib.hid (show qs.length = M.length by have := HML.out; omega)
            have HRS := Lib.hid (show rs.length = M.length by have := HML.out; omega)
            have HF := Lib.hid HS.out.fit
            obtain ⟨D0, hD0⟩ : ∃ D0, dropP C1 1000000 = D0 := ⟨_, rfl⟩
            obtain ⟨EE, hEE⟩ : ∃ EE, (commitP C1 1000000).2 = EE := ⟨_, rfl⟩
            rw [hD0] at e2 e3 e4 e6
            rw [hEE] at e4 e5
            have HCM : Hid ((commitP C1 1000000).1 = 0 ∧ (commitP C1 1000000).2 = EE) := Lib.hid ⟨e1, hEE⟩
            have HAB := Lib.hid e2
            have HFD := Lib.hid e3
            have HST := Lib.hid e4
            have HNV := Lib.hid e5
            have HAN := Lib.hid e6
            clear e1 e2 e3 e4 e5 e6 l4 l5 l6 hkm hD0 hEE HV HS
            go_wp2_with fail
            refine CV.out.mono ?_
            rintro e w6 ⟨rfl, k6⟩
            have HR6 := Lib.hid (HR.out.keep0 k6)
            clear k6 CV HR
            go_wp2_with fail
            refine (HR6.out.sta.copy HF.out.wf HP.out (HF.out.hl (by omega))).mono ?_
            rintro e w7 ⟨d, rfl, hd, k7⟩
            have HW7 := Lib.hid (HR6.out.wrt.keep0 k7)
            have D7 := Lib.hid hd.symm
            obtain ⟨U, hU⟩ : ∃ U, (fp u13 ++ fp u14) ++ T = U := ⟨_, rfl⟩
            rw [hU] at HW7 D7
            clear hU hd k7 HR6
            go_wp2_with fail
            refine (D7.out.calls (fun F G hC => abortOp_any hC HF.out.wf (HF.out.hl (by omega)) HI0.out)).mono ?_
            rintro e w8 ⟨rfl, hd8, kp⟩
            rw [HAB.out] at hd8
            have D8 := Lib.hid hd8
            have HW8 := Lib.hid (HW7.out.kept kp)
            clear hd8 kp HW7 D7 HAB
            obtain ⟨B13, d13, rfl, -, -, -⟩ := own_shape HW8.out.got
            obtain ⟨B14, d14, rfl, -, -, -⟩ := own_shape HW8.out.lst
            go_wp2_with fail
            go_loopw [20, 21, 22, 23] (fun iv _ _ _ wr => ∃ k : Nat, k ≤ M.length ∧ iv = .int .i64 k ∧ Duo w wr d c (stAt D0 p (ms.take k)) C1 U ∧ Wrt wr gs qs (.slice B13 gs.length d13) (.slice B14 qs.length d14) rs U) (fun iv _ _ _ _ => M.length - (intOf iv).toNat)
            case atStart => exact ⟨0, by omega, rfl, D8.out, HW8.out⟩
            case round =>
              obtain ⟨k, hk, rfl, hd, hw⟩ := hrel
              clear D8 HW8
              have HD := Lib.hid hd
              have HW := Lib.hid hw
              clear hd hw
              by_cases hlt : k < M.length
              · obtain ⟨bl, off, hAA, c0, c1, c2, c3, c4, c5, c6, c7, c8⟩ := (HM.out.keep HD.out.k).get hlt
                have HX := Lib.hid (HOKM.out _ (List.getElem_mem hlt))
                have HZ := Lib.hid ((HM.out.keep HD.out.k).ml _ (List.getElem_mem hlt) HX.out.2)
                subst hAA
                obtain ⟨q, hq⟩ : ∃ q, M[k] = q := ⟨_, rfl⟩
                rw [hq] at c0 c1 c2 c3 c4 c5 c6 c7 c8 HX HZ
                have HQE := Lib.hid hq
                clear hq
                have i0 : (0 : Int) ≤ (k : Int) := by omega
                have i1 : (k : Int) < (M.length : Int) := by omega
                have hlms : k < ms.length := by rw [HML.out]; exact hlt
                have hgk : k < gs.length := by rw [HG.out]; exact hlt
                have hqk : k < qs.length := by rw [HQ.out]; exact hlt
                have hrk : k < rs.length := by rw [HRS.out]; exact hlt
                have hqx : ms[k] = q.x := by rw [HMG.out k hlt hlms, HQE.out]
                obtain ⟨a1, a2⟩ := HAN.out k hlms hgk hqk
                rw [hqx] at a1 a2
                have a3 : (doP (stAt D0 p (ms.take k)) (asP q.x p)).2 = stAt D0 p (ms.take (k + 1)) := by
                  rw [List.take_succ_eq_append_getElem hlms, stAt_snoc, hqx]
                have hft := fit_st HFD.out p HMS.out k (by omega)
                obtain ⟨g, hg⟩ : ∃ g, gs[k] = g := ⟨_, rfl⟩
                obtain ⟨ql, hql⟩ : ∃ ql, qs[k] = ql := ⟨_, rfl⟩
                obtain ⟨rv, hrv⟩ : ∃ rv, rs[k] = rv := ⟨_, rfl⟩
                rw [hg] at a1
                rw [hql] at a2
                have HQL : Hid (ql.length ≤ 1000000) := Lib.hid (by
                  rw [← a2]
                  exact do_len hft.wf HP.out _ HX.out.1.k)
                have HCG : Hid (∀ (W : World) (A : Option Addr) (n : Nat), W.ownsRow 0 9 1 (.slice A gs.length n) gs.length (vs gs) → ∃ b off, A = some ⟨b, off, none⟩ ∧ W.cell? ⟨b, off + k, none⟩ = some (sv g)) := Lib.hid (fun W A n ho => by
                  obtain ⟨b, off, h1, h2⟩ := at_own ho (by omega)
                  exact ⟨b, off, h1, h2 k _ (by simp [vs, hgk, hg])⟩)
                have HCL : Hid (∀ (W : World) (A : Option Addr) (n : Nat), W.ownsRow 0 27 1 (.slice A qs.length n) qs.length rs → ∃ b off, A = some ⟨b, off, none⟩ ∧ W.cell? ⟨b, off + k, none⟩ = some rv) := Lib.hid (fun W A n ho => by
                  obtain ⟨b, off, h1, h2⟩ := at_own ho (by omega)
                  exact ⟨b, off, h1, h2 k _ (by rw [← hrv]; exact List.getElem?_eq_getElem hrk)⟩)
                have HRW : Hid (∀ (W : World), Wrt W gs qs (.slice B13 gs.length d13) (.slice B14 qs.length d14) rs U → W.ownsRow 0 9 1 rv ql.length (vs ql)) := Lib.hid (fun W ho => by
                  have := (ho.row k hqk hrk).1
                  rw [hrv, hql] at this
                  exact this)
                have HA1 := Lib.hid a1
                have HA2 := Lib.hid a2
                have HA3 := Lib.hid a3
                have HFT := Lib.hid hft
                have kg : (k : Int) < (gs.length : Int) := by omega
                have kq : (k : Int) < (qs.length : Int) := by omega
                clear a1 a2 a3 hft hg hql hrv hqx hlms hgk hqk hrk
                go_wp2_with fail
                refine (as_any wr q.x q.A q.c p).mono ?_
                rintro e w9 ⟨rfl, k9⟩
                have D9 := Lib.hid (HD.out.keep0 k9)
                have W9 := Lib.hid (HW.out.keep0 k9)
                have HZ9 := Lib.hid (HZ.out.keep k9)
                clear k9 HD HW HZ c0 c1 c2 c3 c4 c5 c6 c7 c8
                go_wp2_with fail
                refine (duo_do D9.out HFT.out (by omega) HP.out (asP q.x p) (HX.out.1.as HI.out) q.A q.c HZ9.out HA1.out HA2.out HA3.out).mono ?_
                rintro e w10 ⟨⟨v10, z10, rfl, o10⟩, hd10, kp⟩
                have W10 := Lib.hid (W9.out.kept kp)
                have D10 := Lib.hid hd10
                have CS := Lib.hid (same_eq o10 (HRW.out _ W10.out) HQL.out)
                clear hd10 kp W9 D9 HZ9 HX HA1 HA2 HA3 HFT HQE o10
                obtain ⟨gb, go, hgg, cg⟩ := HCG.out _ _ _ W10.out.got
                obtain ⟨lb, lo, hll, cl⟩ := HCL.out _ _ _ W10.out.lst
                subst hgg hll
                go_wp2_with fail
                refine CS.out.mono ?_
                rintro e w11 ⟨rfl, k11⟩
                have W11 := Lib.hid (W10.out.keep0 k11)
                have D11 := Lib.hid (D10.out.keep0 k11)
                clear k11 CS W10 D10 HCG HCL HRW cg cl
                go_wp2_with fail
                exact ⟨⟨k + 1, by omega, rfl, D11.out, W11.out⟩, by simp only [intOf]; omega⟩
              · obtain rfl : k = M.length := by omega
                have i1 : ¬ ((M.length : Int) < (M.length : Int)) := by omega
                have htk : ms.take M.length = ms := List.take_of_length_le (by rw [HML.out]; exact Nat.le_refl _)
                have hft := fit_st HFD.out p HMS.out ms.length (Nat.le_refl _)
                rw [List.take_of_length_le (Nat.le_refl _), HST.out] at hft
                have hdd := HD.out
                rw [htk, HST.out] at hdd
                have HD := Lib.hid hdd
                have HFE := Lib.hid (hft.mono (show _ ≤ 1000 by have := HML.out; omega))
                have CC := HD.out.symm.calls (fun F G hC => commitOp_any hC HF.out.wf HP.out (HF.out.hl (by omega)) (HF.out.hlg (by omega)) HI0.out)
                rw [HCM.out.1, HCM.out.2] at CC
                have CC := Lib.hid CC
                clear htk hft hdd HW HST HFD HCM HAN
                go_wp2_with fail
                refine CC.out.mono ?_
                rintro e w9 ⟨rfl, hd9, -⟩
                have D9 := Lib.hid hd9
                clear hd9 CC HD
                go_wp2_with fail
                refine (D9.out.right.copy HFE.out.wf HP.out (HFE.out.hl (by omega))).mono ?_
                rintro e w10 ⟨ee, rfl, -, he⟩
                have D10 := Lib.hid (D9.out.keep0 he.k)
                have E10 := Lib.hid he
                clear he D9
                go_wp2_with fail
                refine (D10.out.left.copy HFE.out.wf HP.out (HFE.out.hl (by omega))).mono ?_
                rintro e w11 ⟨ff, rfl, -, hf⟩
                have D11 := Lib.hid (D10.out.keep0 hf.k)
                have E11 := Lib.hid (E10.out.keep0 hf.k)
                have F11 := Lib.hid hf
                clear hf D10 E10
                go_wp2_with fail
                refine (sees_law D11.out.left D11.out.right HFE.out (by omega) HP.out HI.out _ M cb (HM.out.keep D11.out.k) HOKM.out).mono ?_
                rintro e w12 ⟨rfl, k12⟩
                have D12 := Lib.hid (D11.out.keep0 k12)
                have E12 := Lib.hid (E11.out.keep0 k12)
                have F12 := Lib.hid (F11.out.keep0 k12)
                clear k12 D11 E11 F11
                have CV := valid_sta (Sta.of D12.out.left) HFE.out HP.out HI0.out
                rw [HNV.out] at CV
                have CV := Lib.hid CV
                go_wp2_with fail
                refine CV.out.mono ?_
                rintro e w13 ⟨rfl, k13⟩
                have D13 := Lib.hid (D12.out.keep0 k13)
                have E13 := Lib.hid (E12.out.keep0 k13)
                have F13 := Lib.hid (F12.out.keep0 k13)
                clear k13 D12 E12 F12 CV
                go_wp2_with fail
                refine (live_sta (Sta.of D13.out.left) HFE.out (by omega)).mono ?_
                rintro e w14 ⟨⟨v14, rfl, o14, -⟩, k14⟩
                obtain ⟨B14x, d14x, rfl, -, -, -⟩ := own_shape o14
                have O14 := Lib.hid o14
                have D14 := Lib.hid (D13.out.keep0 k14)
                have E14 := Lib.hid (E13.out.keep0 k14)
                have F14 := Lib.hid (F13.out.keep0 k14)
                clear k14 D13 E13 F13 o14
                go_wp2_with fail
                refine (live_sta (Sta.of D14.out.right) HFE.out (by omega)).mono ?_
                rintro e w15 ⟨⟨v15, rfl, o15, -⟩, k15⟩
                obtain ⟨B15, d15, rfl, -, -, -⟩ := own_shape o15
                have hll : (liveP EE).length ≤ 2000000 := by have := live_len (C := EE); have := HFE.out.len; omega
                have CI := ints_any w15 B14x B15 (liveP EE) (liveP EE) d14x d15 (AtZ.of_own (own_keep O14.out k15 (by simp)) hll) (AtZ.of_own o15 hll)
                rw [decide_eq_true (rfl : liveP EE = liveP EE)] at CI
                have CI := Lib.hid CI
                have E15 := Lib.hid (E14.out.keep0 k15)
                have F15 := Lib.hid (F14.out.keep0 k15)
                have D15 := Lib.hid (D14.out.keep0 k15)
                clear k15 E14 F14 D14 o15 O14 hll
                go_wp2_with fail
                refine CI.out.mono ?_
                rintro e w16 ⟨rfl, k16⟩
                have E16 := Lib.hid (E15.out.keep0 k16)
                have F16 := Lib.hid (F15.out.keep0 k16)
                have D16 := Lib.hid (D15.out.keep0 k16)
                clear k16 E15 F15 D15 CI
                have I0 : Hid (I64 0) := Lib.hid ⟨by omega, by omega⟩
                go_wp2_with fail
                refine (writes_sta (Sta.of E16.out) HFE.out HP.out I0.out).mono ?_
                rintro e w17 ⟨⟨v17, rfl, o17, -⟩, k17⟩
                obtain ⟨B17, d17, rfl, -, -, -⟩ := own_shape o17
                have O17 := Lib.hid o17
                have F17 := Lib.hid (F16.out.keep0 k17)
                have D17 := Lib.hid (D16.out.keep0 k17)
                clear k17 E16 F16 D16 o17
                go_wp2_with fail
                refine (writes_sta (Sta.of F17.out) HFE.out HP.out I0.out).mono ?_
                rintro e w18 ⟨⟨v18, rfl, o18, -⟩, k18⟩
                obtain ⟨B18, d18, rfl, -, -, -⟩ := own_shape o18
                have hwl := wrP_len HFE.out.wf HP.out 0
                have CP := pairs_any w18 B17 B18 (wrP EE 0) (wrP EE 0) d17 d18 (AtP.of_own (own_keep O17.out k18 (by simp)) hwl) (AtP.of_own o18 hwl)
                rw [decide_eq_true (rfl : wrP EE 0 = wrP EE 0)] at CP
                have CP := Lib.hid CP
                have D18 := Lib.hid (D17.out.keep0 k18)
                clear k18 F17 D17 o18 O17 hwl
                go_wp2_with fail
                refine CP.out.mono ?_
                rintro e w19 ⟨rfl, k19⟩
                have D19 := Lib.hid (D18.out.keep0 k19)
                clear k19 D18 CP
                go_wp2_with fail
                go_ret
                exact ⟨rfl, D19.out.k⟩
end Go.Proofs.Ytbllmpcpfmlemaa
