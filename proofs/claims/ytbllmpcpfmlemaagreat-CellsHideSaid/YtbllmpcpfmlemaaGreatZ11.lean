/- The law CellsHide, walked (printed by z11gen.py). -/
import Derived.Test.YtbllmpcpfmlemaaGreatZ10
namespace Go.Proofs.YtbllmpcpfmlemaaGreat
open Go.RowKit

theorem info3w : (Tryz.prog.info? 3).map (fun i => (i.zero, i.size, i.bytes)) = some (some (.int .i64 0), 1, 8) := by kernel_rfl
theorem zs_one (l : List Int) : ∀ u ∈ zs l, u.oneCell' = true := by
  intro u hu
  simp only [zs, List.mem_map] at hu
  obtain ⟨z, _, rfl⟩ := hu
  rfl
theorem and_3 (n : Int) : bits .and .i64 n 3 = n % 4 := and_mask n 2 (by omega)
theorem at_own {W : World} {A : Option Addr} {e n c : Nat} {xs : List Value} (h : W.ownsRow 0 e 1 (.slice A n c) n xs) (h0 : 0 < n) : ∃ b off, A = some ⟨b, off, none⟩ ∧ ∀ (k : Nat) (u : Value), xs[k]? = some u → W.cell? ⟨b, off + k, none⟩ = some u := by
  obtain ⟨A', c', hv, -, -, hA⟩ := own_shape h
  obtain ⟨g, hg⟩ := hA h0
  obtain ⟨rfl, -, rfl⟩ : A = A' ∧ n = n ∧ c = c' := by injection hv with h1 h2 h3; exact ⟨h1, rfl, h3⟩
  subst hg
  refine ⟨g, 0, rfl, fun k u hu => ?_⟩
  rw [Nat.zero_add]
  exact own_cell h hu
theorem Duo.alike {a W : World} {c d : Nat} {C D : St} {P : List Str} {T : List Nat} (h : Duo a W c d C D T) (hW : WF P C) (hW2 : WF P D) (hP : PoolOk P) {i : Int} (hi : I64 i) (ha : AlikeP C D i) :
    Calls Tryz.prog 35 #[.pointer (some ⟨c, 0, none⟩), .pointer (some ⟨d, 0, none⟩), .int .i64 i] W fun e w' => e = .returned (.bool true) ∧ Keeps [] W w' := by
  obtain ⟨F, G, F2, G2, h2, h3, _⟩ := h
  exact alike_any h2 h3 hW hW2 hP hi ha
set_option maxRecDepth 1000000 in
set_option maxHeartbeats 25600000 in
theorem hide_walk (w : World) (A A2 : Option Addr) (L M : List Oq) (ca cb : Nat) (p : Int) (hA : AtO w A L) (hB : AtO w A2 M) (hi : I64 p) :
    Calls Tryz.prog 4 #[.slice A L.length ca, .int .i64 p, .slice A2 M.length cb] w fun e w' => e = .returned (.bool true) ∧ Keeps [] w w' := by
  have HL := Lib.hid hA
  have HMM := Lib.hid hB
  have mL := hA.mx
  have mM := hB.mx
  have HI := Lib.hid hi
  have HI0 : Hid (I64 1000000) := Lib.hid ⟨by omega, by omega⟩
  have CS := Lib.hid (small_any w)
  clear hA hB hi
  go_enter Tryz.func4, Tryz.ntmps4
  go_wp2_with fail
  refine CS.out.mono ?_
  rintro e w1 ⟨rfl, k1⟩
  have K1 := Lib.hid k1
  clear k1 CS
  go_wp2_with fail
  refine (new_any w1).mono ?_
  rintro e w2 ⟨c, F, rfl, hc, hF, k2⟩
  have HT : Hid (Sta w w2 c new0 [] []) := Lib.hid (Sta.of ⟨F, [], hc, fun g hg => Nat.le_trans K1.out.size (hF g hg), K1.out.trans k2 (by simp)⟩)
  clear hc hF k2 K1
  have CF := Lib.hid (few_any w2 A L ca 30 (HL.out.keep HT.out.k))
  have CG := Lib.hid (few_any w2 A2 M cb 30 (HMM.out.keep HT.out.k))
  obtain ⟨V, hV⟩ : ∃ V, fewB L 30 = V := ⟨_, rfl⟩
  obtain ⟨V2, hV2⟩ : ∃ V, fewB M 30 = V := ⟨_, rfl⟩
  rw [hV] at CF
  rw [hV2] at CG
  have HV := Lib.hid hV
  have HV2 := Lib.hid hV2
  clear hV hV2
  cases V with
  | false =>
    go_wp2_with fail
    refine CF.out.mono ?_
    rintro e w3 ⟨rfl, rfl⟩
    go_wp2_with fail
    go_ret
    exact ⟨rfl, HT.out.k⟩
  | true =>
  cases V2 with
  | false =>
    go_wp2_with fail
    refine CF.out.mono ?_
    rintro e w3 ⟨rfl, rfl⟩
    go_wp2_with fail
    refine CG.out.mono ?_
    rintro e w4 ⟨rfl, rfl⟩
    go_wp2_with fail
    go_ret
    exact ⟨rfl, HT.out.k⟩
  | true =>
  have l1 : L.length ≤ 30 := by have := (few_spec HV.out).1; omega
  have l2 : M.length ≤ 30 := by have := (few_spec HV2.out).1; omega
  obtain ⟨P, hP1, hP2, hP3⟩ : ∃ P, PoolOk P ∧ (∀ k ∈ poolL L, k ∈ P) ∧ (∀ k ∈ poolL M, k ∈ P) := by
    refine ⟨poolL L ++ poolL M, PoolOk.mk' (fun s hs => ?_) ?_, fun k hk => by simp [hk], fun k hk => by simp [hk]⟩
    · rw [List.mem_append] at hs
      rcases hs with hs | hs
      · exact poolL_short HV.out s hs
      · exact poolL_short HV2.out s hs
    · have h1 := poolL_len (L := L) (fun q hq => ((few_spec HV.out).2 q hq).2.1)
      have h2 := poolL_len (L := M) (fun q hq => ((few_spec HV2.out).2 q hq).2.1)
      rw [List.length_append]
      omega
  have HP := Lib.hid hP1
  have HOKL := Lib.hid (OkL.of HL.out HV.out hP2)
  have HOKM := Lib.hid (OkL.of HMM.out HV2.out hP3)
  have HI3 := Lib.hid info3w
  clear hP1 hP2 hP3 HV HV2
  go_wp2_with fail
  refine CF.out.mono ?_
  rintro e w3 ⟨rfl, rfl⟩
  clear CF
  go_wp2_with fail
  refine CG.out.mono ?_
  rintro e w3 ⟨rfl, rfl⟩
  clear CG
  go_wp2_with fail
  go_loopw [9] (fun iv wr => ∃ (k : Nat) (C : St), k ≤ L.length ∧ iv = .int .i64 k ∧ Sta w wr c C [] [] ∧ Fit P k C) (fun iv _ => L.length - (intOf iv).toNat)
  case atStart => exact ⟨0, new0, by omega, rfl, HT.out, Fit.new0 P⟩
  case round =>
    obtain ⟨k, C, hk, rfl, ho, hf⟩ := hrel
    clear HT
    have HT := Lib.hid ho
    have HF := Lib.hid hf
    clear ho hf
    by_cases hlt : k < L.length
    · obtain ⟨bl, off, hAA, c0, c1, c2, c3, c4, c5, c6, c7, c8⟩ := (HL.out.keep HT.out.k).get hlt
      have HX := Lib.hid (HOKL.out _ (List.getElem_mem hlt))
      have HZ := Lib.hid ((HL.out.keep HT.out.k).ml _ (List.getElem_mem hlt) HX.out.2)
      subst hAA
      obtain ⟨q, hq⟩ : ∃ q, L[k] = q := ⟨_, rfl⟩
      rw [hq] at c0 c1 c2 c3 c4 c5 c6 c7 c8 HX HZ
      clear hq
      have i0 : (0 : Int) ≤ (k : Int) := by omega
      have i1 : (k : Int) < (L.length : Int) := by omega
      go_wp2_with fail
      refine (do_sta HT.out HF.out (by omega) HP.out q.x HX.out.1 q.A q.c HZ.out).mono ?_
      rintro e w5 ⟨⟨v, rfl, -, -⟩, ho5, -⟩
      have HO5 := Lib.hid ho5
      have HF5 : Hid (Fit P (k + 1) (doP C q.x).2) := Lib.hid (HF.out.do_ HX.out.1.p HX.out.1.n.2 HX.out.1.v)
      clear ho5 HT HF HX HZ c0 c1 c2 c3 c4 c5 c6 c7 c8
      go_wp2_with fail
      exact ⟨⟨k + 1, _, by omega, rfl, HO5.out, HF5.out⟩, by simp only [intOf]; omega⟩
    · obtain rfl : k = L.length := by omega
      have i1 : ¬ ((L.length : Int) < (L.length : Int)) := by omega
      have hf30 := HF.out.mono l1
      clear HF
      have HF := Lib.hid hf30
      clear hf30
      go_wp2_with fail
      refine (HT.out.copy HF.out.wf HP.out (HF.out.hl (by omega))).mono ?_
      rintro e w5 ⟨d, rfl, ho5, -⟩
      have HO5 := Lib.hid (ho5.sub (U := []) (by simp))
      clear ho5 HT
      have CB := Lib.hid (HO5.out.calls (fun F G hC => beginOp_any hC HF.out.wf.tree (HF.out.hl (by omega)) HI0.out HI.out))
      obtain ⟨Bc, hBc⟩ : ∃ Bc, (beginP C 1000000 p).1 = Bc := ⟨_, rfl⟩
      rw [hBc] at CB
      have HBc := Lib.hid hBc
      clear hBc
      by_cases hB : Bc = 0
      rotate_left
      · have hB1 : (Bc == 0) = false := by simpa using hB
        go_wp2_with fail
        refine CB.out.mono ?_
        rintro e w6 ⟨rfl, ho6, -⟩
        have HO6 := Lib.hid ho6
        clear ho6
        go_wp2_with fail
        go_ret
        exact ⟨rfl, HO6.out.k⟩
      subst hB
      go_wp2_with fail
      refine CB.out.mono ?_
      rintro e w6 ⟨rfl, ho6, -⟩
      have HD6 := Lib.hid ho6
      clear ho6 CB HO5
      have hab : Above 1000000 C (beginP C 1000000 p).2 := Above.start HBc.out rfl
      have hfe : Fit P 31 (beginP C 1000000 p).2 := by
        have h1 := HF.out.do_ (x := ⟨8, p, 1000000, [], [], ⟨0, [], [], []⟩⟩)
        unfold beginP at hab ⊢
        have := HF.out.wf.begin_ (i := 1000000) (p := p) (by omega)
        unfold beginP at this
        have l := HF.out.len
        have g := HF.out.lg
        split
        · exact HF.out.mono (by omega)
        split
        · exact HF.out.mono (by omega)
        split
        · rename_i h1 h2 h3
          rw [if_neg h1, if_neg h2, if_pos h3] at this
          refine ⟨this, by simp only [List.length_cons]; omega, ?_⟩
          rw [lgSize_cons]
          simp [lgOne, lgLen]
          omega
        · exact HF.out.mono (by omega)
      have HA := Lib.hid hab
      have HG := Lib.hid hfe
      clear hab hfe HBc i1
      obtain ⟨E, hE⟩ : ∃ E, (beginP C 1000000 p).2 = E := ⟨_, rfl⟩
      rw [hE] at HA HG HD6
      clear hE
      go_wp2_with fail
      refine (live_sta (Sta.of HD6.out.right) HF.out (by omega)).mono ?_
      rintro e w7 ⟨⟨v1, rfl, o1, f1⟩, k1⟩
      obtain ⟨B1, d1, rfl, -, -, -⟩ := own_shape o1
      have F1 : Hid (∀ g ∈ fp (.slice B1 (liveP C).length d1), w6.heap.size ≤ g) := Lib.hid f1
      have HZI : Hid (∀ z ∈ liveP C ++ [0], I64 z) := Lib.hid (fun z hz => by
        rcases List.mem_append.1 hz with hz | hz
        · exact live_i64 HF.out.wf hz
        · rw [List.mem_singleton.1 hz]; exact ⟨by omega, by omega⟩)
      have HALL : Hid (∀ x ∈ C, x.id ∈ liveP C ++ [0]) := Lib.hid (fun x hx => by
        by_cases h0 : x.id = 0
        · simp [h0]
        · exact List.mem_append_left _ (((live_ok HF.out.wf.tree).2 x.id).2 ⟨h0, has_iff.2 ⟨x, hx, rfl⟩⟩))
      have hNm : (liveP C).length ≤ 100 := by have := live_len (C := C); have := HF.out.len; omega
      obtain ⟨N, hN⟩ : ∃ N, (liveP C).length = N := ⟨_, rfl⟩
      rw [hN] at o1 F1 hNm
      have e1 : zs (liveP C) ++ [.int .i64 0] = zs (liveP C ++ [0]) := by simp [zs]
      have e2 : (liveP C ++ [0]).length = N + 1 := by simp [hN]
      obtain ⟨Q, hQ⟩ : ∃ Q, liveP C ++ [0] = Q := ⟨_, rfl⟩
      rw [hQ] at e1 e2 HZI HALL
      have E1 := Lib.hid e1
      have E2 := Lib.hid e2
      have O1 := Lib.hid (own_keep o1 ((Keeps.refl [] w7).alloc (.cells #[.int .i64 0] 3)) (by simp))
      have KA := Lib.hid (k1.alloc (.cells #[.int .i64 0] 3))
      have RB := Lib.hid (reads_blk (Blk.new w7 3 #[.int .i64 0]) (xs := [.int .i64 0]) (size := 1) rfl rfl)
      rw [hN]
      clear o1 f1 k1 hQ e1 e2 hN
      go_wp2_with (at_builtin; refine wpList_app _ rfl (.tmp 65) (.tmp 66) _ rfl 3 (.int .i64 0) 1 8 Tryz.underlying42 HI3.out rfl (by omega) (.slice B1 N d1) _ _ rfl O1.out _ _ _ _ [.int .i64 0] rfl RB.out (zs_one [0]) (by unfold maxLen; omega) (by omega) ?_)
      intro v2 w8 o2 k2 _
      have K8 : Hid (Keeps [] w6 w8) := Lib.hid (KA.out.trans k2 (fun g hg => .inr (F1.out g hg)))
      rw [E1.out, ← E2.out] at o2
      obtain ⟨B2, d2, rfl, -, -, -⟩ := own_shape o2
      have HD8 := Lib.hid (((HD6.out.keep0 K8.out).addRow o2 (by decide) (by decide) (by decide)).sub (U := fp (.slice B2 Q.length d2)) (by simp))
      have HO8 := Lib.hid o2
      have hq1 := E2.out
      obtain ⟨m, hm⟩ : ∃ m, Q.length = m := ⟨_, rfl⟩
      have hmm : m ≤ 101 := by omega
      rw [hm] at HD8 HO8 ⊢
      have HM := Lib.hid hm
      clear o2 k2 KA O1 RB E1 E2 F1 HI3 hq1 hm hNm K8 HD6
      go_wp2_with fail
      go_loopw [13] (fun iv wr => ∃ k : Nat, k ≤ m ∧ iv = .int .i64 k ∧ Keeps [] w8 wr ∧ ∀ j (h : j < Q.length), j < k → Q[j] < 1000000) (fun iv _ => m - (intOf iv).toNat)
      case atStart => exact ⟨0, by omega, rfl, Keeps.refl _ _, fun j h hj => absurd hj (by omega)⟩
      case round =>
        obtain ⟨k, hk, rfl, hkr, hlow⟩ := hrel
        have KR := Lib.hid hkr
        have HLOW := Lib.hid hlow
        clear hkr hlow
        have HO := Lib.hid (own_keep HO8.out KR.out (by simp))
        have HD := Lib.hid (HD8.out.keep0 KR.out)
        by_cases hkm : k < m
        · obtain ⟨bq, oq, hBB, hcell⟩ := at_own HO.out (by omega)
          have hkQ : k < Q.length := by rw [HM.out]; exact hkm
          have hc := hcell k (.int .i64 Q[k]) (by simp [zs, hkQ])
          obtain ⟨z, hz⟩ : ∃ z, Q[k] = z := ⟨_, rfl⟩
          rw [hz] at hc
          have HZ := Lib.hid hz
          subst hBB
          have i0 : (0 : Int) ≤ (k : Int) := by omega
          have i1 : (k : Int) < (m : Int) := by omega
          clear hcell hz
          by_cases hz0 : 1000000 ≤ z
          · go_wp2_with fail
            go_ret
            exact ⟨rfl, HD.out.k⟩
          · go_wp2_with fail
            exact ⟨⟨k + 1, by omega, rfl, KR.out, fun j h hj => by
              by_cases hjk : j < k
              · exact HLOW.out j h hjk
              · obtain rfl : j = k := by omega
                rw [HZ.out]; omega⟩, by simp only [intOf]; omega⟩
        · obtain rfl : m = k := by omega
          have i1 : ¬ ((m : Int) < (m : Int)) := by omega
          have hlw : ∀ j (h : j < Q.length), Q[j] < 1000000 := fun j h => HLOW.out j h (by rw [← HM.out]; exact h)
          clear HLOW
          have HLOW := Lib.hid hlw
          have HC : Hid (∀ x ∈ C, x.id < 1000000) := Lib.hid (fun x hx => by
            obtain ⟨j, hj, e⟩ := List.mem_iff_getElem.1 (HALL.out x hx)
            rw [← e]
            exact hlw j hj)
          clear hlw HD8 HO8 KR HALL
          go_wp2_with fail
          go_loopw [14, 15, 16] (fun iv _ _ wq => ∃ (j : Nat) (D : St), j ≤ M.length ∧ iv = .int .i64 j ∧ Duo w wq c d D C (fp (.slice B2 m d2)) ∧ Fit P (31 + j) D ∧ Above 1000000 C D ∧ wq.ownsRow 0 3 1 (.slice B2 m d2) m (zs Q)) (fun iv _ _ _ => M.length - (intOf iv).toNat)
          case atStart => exact ⟨0, E, by omega, rfl, HD.out, HG.out, HA.out, HO.out⟩
          case round =>
            obtain ⟨j, D, hj, rfl, hd, hg, ha, ho⟩ := hrel
            clear HD HG HA HO
            have HD := Lib.hid hd
            have HG := Lib.hid hg
            have HA := Lib.hid ha
            have HO := Lib.hid ho
            clear hd hg ha ho i1
            by_cases hlt : j < M.length
            · obtain ⟨bl, off, hAA, c0, c1, c2, c3, c4, c5, c6, c7, c8⟩ := (HMM.out.keep HD.out.k).get hlt
              have HX := Lib.hid (HOKM.out _ (List.getElem_mem hlt))
              have HZ := Lib.hid ((HMM.out.keep HD.out.k).ml _ (List.getElem_mem hlt) HX.out.2)
              subst hAA
              obtain ⟨q, hq⟩ : ∃ q, M[j] = q := ⟨_, rfl⟩
              rw [hq] at c0 c1 c2 c3 c4 c5 c6 c7 c8 HX HZ
              clear hq
              have i0 : (0 : Int) ≤ (j : Int) := by omega
              have i1 : (j : Int) < (M.length : Int) := by omega
              have e3 := and_3 q.x.who
              have e4 := and_3 q.x.n
              have e15 := and_15 q.x.dw
              have a0 : 0 ≤ q.x.who % 4 := Int.emod_nonneg _ (by omega)
              have a1 : q.x.who % 4 < 4 := Int.emod_lt_of_pos _ (by omega)
              have b0 : 0 ≤ q.x.n % 4 := Int.emod_nonneg _ (by omega)
              have b1 : q.x.n % 4 < 4 := Int.emod_lt_of_pos _ (by omega)
              obtain ⟨a3, ha3⟩ : ∃ a3, q.x.who % 4 = a3 := ⟨_, rfl⟩
              obtain ⟨b3, hb3⟩ : ∃ b3, q.x.n % 4 = b3 := ⟨_, rfl⟩
              rw [ha3] at e3 a0 a1
              rw [hb3] at e4 b0 b1
              clear ha3 hb3
              have k0 : Keeps [] wr (wr.alloc (.cells #[.int .i64 q.x.dw, .int .i64 q.x.who, .int .i64 q.x.n, sv q.x.key, sv q.x.val, .int .i64 q.x.r.kind, sv q.x.r.key, sv q.x.r.val, .slice q.A q.x.r.list.length q.c] 36)) := (Keeps.refl _ _).alloc _
              have kb : Blk (wr.alloc (.cells #[.int .i64 q.x.dw, .int .i64 q.x.who, .int .i64 q.x.n, sv q.x.key, sv q.x.val, .int .i64 q.x.r.kind, sv q.x.r.key, sv q.x.r.val, .slice q.A q.x.r.list.length q.c] 36)) wr.heap.size 36 #[.int .i64 q.x.dw, .int .i64 q.x.who, .int .i64 q.x.n, sv q.x.key, sv q.x.val, .int .i64 q.x.r.kind, sv q.x.r.key, sv q.x.r.val, .slice q.A q.x.r.list.length q.c] := Blk.new wr 36 _
              by_cases h9 : q.x.dw % 16 = 9
              · by_cases h0 : a3 = 0
                · rw [h9] at e15
                  have e0 : ((1000000 + a3 : Int) == 1000000) = true := by simp [h0]
                  have H0 := Lib.hid h0
                  clear h9 h0
                  go_wp2_with fail
                  have hx' : OkO P ⟨4, 1000000 + a3, 1000001 + b3, q.x.key, q.x.val, q.x.r⟩ := by
                    refine ⟨?_, ⟨by dsimp only; omega, by dsimp only; omega⟩, ⟨by dsimp only; omega, by dsimp only; omega⟩, HX.out.1.kd, HX.out.1.p, HX.out.1.v⟩
                    exact ⟨by dsimp only; omega, by dsimp only; omega⟩
                  have hup := HA.out.do_ (x := ⟨4, 1000000 + a3, 1000001 + b3, q.x.key, q.x.val, q.x.r⟩) HC.out (by dsimp only; omega) (by dsimp only; omega) (fun h => by (unfold doing at h; dsimp only at h ⊢; omega))
                  have HUP := Lib.hid hup
                  have HFE := Lib.hid (HG.out.do_ (x := ⟨4, 1000000 + a3, 1000001 + b3, q.x.key, q.x.val, q.x.r⟩) hx'.p hx'.n.2 hx'.v)
                  have CD := Lib.hid (fun W (hk : Keeps [] wr W) => do_duo (HD.out.keep0 hk) HG.out (by omega) HP.out ⟨4, 1000000 + a3, 1000001 + b3, q.x.key, q.x.val, q.x.r⟩ hx' q.A q.c (HZ.out.keep hk))
                  clear hup hx'
                  obtain ⟨dr, hdr⟩ : ∃ dr, doP D ⟨4, 1000000 + a3, 1000001 + b3, q.x.key, q.x.val, q.x.r⟩ = dr := ⟨_, rfl⟩
                  rw [hdr] at CD HUP HFE
                  obtain ⟨⟨ds, dl, dn⟩, DC⟩ := dr
                  dsimp only at CD HUP HFE
                  clear hdr
                  refine (CD.out _ ((Keeps.refl [] wr).alloc _)).mono ?_
                  rintro e w8 ⟨⟨v8, rfl, -⟩, d8, kp8⟩
                  have HO8 := Lib.hid (kp8.own (own_keep HO.out ((Keeps.refl [] wr).alloc _) (by simp)) (fun g hg => by simpa using hg))
                  have HD8 := Lib.hid d8
                  clear d8 kp8 HD HO HA HG HX HZ CD c0 c1 c2 c3 c4 c5 c6 c7 c8 e15 e0 e3 e4 a0 a1 b0 b1 i0 i1 k0 kb
                  go_wp2_with fail
                  go_loopw [16] (fun iv wq => ∃ k : Nat, k ≤ m ∧ iv = .int .i64 k ∧ Duo w wq c d DC C (fp (.slice B2 m d2)) ∧ wq.ownsRow 0 3 1 (.slice B2 m d2) m (zs Q)) (fun iv _ => m - (intOf iv).toNat)
                  case atStart => exact ⟨0, by omega, rfl, HD8.out, HO8.out⟩
                  case round =>
                    obtain ⟨k, hk, rfl, hd, ho⟩ := hrel
                    clear HD8 HO8
                    have HD := Lib.hid hd
                    have HO := Lib.hid ho
                    clear hd ho
                    by_cases hkm : k < m
                    · obtain ⟨bq, oq, hBB, hcell⟩ := at_own HO.out (by omega)
                      have hkQ : k < Q.length := by rw [HM.out]; exact hkm
                      have hc := hcell k (.int .i64 Q[k]) (by simp [zs, hkQ])
                      have hlow := HLOW.out k hkQ
                      have hiq := HZI.out _ (List.getElem_mem hkQ)
                      obtain ⟨z, hz⟩ : ∃ z, Q[k] = z := ⟨_, rfl⟩
                      rw [hz] at hc hlow hiq
                      subst hBB
                      have i0 : (0 : Int) ≤ (k : Int) := by omega
                      have i1 : (k : Int) < (m : Int) := by omega
                      have CA := Lib.hid (HD.out.alike HFE.out.wf HF.out.wf HP.out hiq (HUP.out.alike HC.out HF.out.wf.tree hlow))
                      clear hcell hz hlow hiq hkQ
                      go_wp2_with fail
                      refine CA.out.mono ?_
                      rintro e w9 ⟨rfl, k9⟩
                      have HD9 := Lib.hid (HD.out.keep0 k9)
                      have HO9 := Lib.hid (own_keep HO.out k9 (by simp))
                      clear k9 HD HO CA hc
                      go_wp2_with fail
                      exact ⟨⟨k + 1, by omega, rfl, HD9.out, HO9.out⟩, by simp only [intOf]; omega⟩
                    · obtain rfl : k = m := by omega
                      have i1 : ¬ ((k : Int) < (k : Int)) := by omega
                      go_wp2_with fail
                      exact ⟨⟨j + 1, DC, by omega, rfl, HD.out, HFE.out, HUP.out, HO.out⟩, by simp only [intOf]; omega⟩
                · rw [h9] at e15
                  have e0 : ((1000000 + a3 : Int) == 1000000) = false := by
                    rw [beq_eq_false_iff_ne]; omega
                  have H0 := Lib.hid h0
                  clear h9 h0
                  go_wp2_with fail
                  have hx' : OkO P ⟨q.x.dw, 1000000 + a3, 1000001 + b3, q.x.key, q.x.val, q.x.r⟩ := by
                    refine ⟨?_, ⟨by dsimp only; omega, by dsimp only; omega⟩, ⟨by dsimp only; omega, by dsimp only; omega⟩, HX.out.1.kd, HX.out.1.p, HX.out.1.v⟩
                    exact HX.out.1.dw
                  have hup := HA.out.do_ (x := ⟨q.x.dw, 1000000 + a3, 1000001 + b3, q.x.key, q.x.val, q.x.r⟩) HC.out (by dsimp only; omega) (by dsimp only; omega) (fun h => by (have := H0.out; dsimp only at h ⊢; omega))
                  have HUP := Lib.hid hup
                  have HFE := Lib.hid (HG.out.do_ (x := ⟨q.x.dw, 1000000 + a3, 1000001 + b3, q.x.key, q.x.val, q.x.r⟩) hx'.p hx'.n.2 hx'.v)
                  have CD := Lib.hid (fun W (hk : Keeps [] wr W) => do_duo (HD.out.keep0 hk) HG.out (by omega) HP.out ⟨q.x.dw, 1000000 + a3, 1000001 + b3, q.x.key, q.x.val, q.x.r⟩ hx' q.A q.c (HZ.out.keep hk))
                  clear hup hx'
                  obtain ⟨dr, hdr⟩ : ∃ dr, doP D ⟨q.x.dw, 1000000 + a3, 1000001 + b3, q.x.key, q.x.val, q.x.r⟩ = dr := ⟨_, rfl⟩
                  rw [hdr] at CD HUP HFE
                  obtain ⟨⟨ds, dl, dn⟩, DC⟩ := dr
                  dsimp only at CD HUP HFE
                  clear hdr
                  refine (CD.out _ ((Keeps.refl [] wr).alloc _)).mono ?_
                  rintro e w8 ⟨⟨v8, rfl, -⟩, d8, kp8⟩
                  have HO8 := Lib.hid (kp8.own (own_keep HO.out ((Keeps.refl [] wr).alloc _) (by simp)) (fun g hg => by simpa using hg))
                  have HD8 := Lib.hid d8
                  clear d8 kp8 HD HO HA HG HX HZ CD c0 c1 c2 c3 c4 c5 c6 c7 c8 e15 e0 e3 e4 a0 a1 b0 b1 i0 i1 k0 kb
                  go_wp2_with fail
                  go_loopw [16] (fun iv wq => ∃ k : Nat, k ≤ m ∧ iv = .int .i64 k ∧ Duo w wq c d DC C (fp (.slice B2 m d2)) ∧ wq.ownsRow 0 3 1 (.slice B2 m d2) m (zs Q)) (fun iv _ => m - (intOf iv).toNat)
                  case atStart => exact ⟨0, by omega, rfl, HD8.out, HO8.out⟩
                  case round =>
                    obtain ⟨k, hk, rfl, hd, ho⟩ := hrel
                    clear HD8 HO8
                    have HD := Lib.hid hd
                    have HO := Lib.hid ho
                    clear hd ho
                    by_cases hkm : k < m
                    · obtain ⟨bq, oq, hBB, hcell⟩ := at_own HO.out (by omega)
                      have hkQ : k < Q.length := by rw [HM.out]; exact hkm
                      have hc := hcell k (.int .i64 Q[k]) (by simp [zs, hkQ])
                      have hlow := HLOW.out k hkQ
                      have hiq := HZI.out _ (List.getElem_mem hkQ)
                      obtain ⟨z, hz⟩ : ∃ z, Q[k] = z := ⟨_, rfl⟩
                      rw [hz] at hc hlow hiq
                      subst hBB
                      have i0 : (0 : Int) ≤ (k : Int) := by omega
                      have i1 : (k : Int) < (m : Int) := by omega
                      have CA := Lib.hid (HD.out.alike HFE.out.wf HF.out.wf HP.out hiq (HUP.out.alike HC.out HF.out.wf.tree hlow))
                      clear hcell hz hlow hiq hkQ
                      go_wp2_with fail
                      refine CA.out.mono ?_
                      rintro e w9 ⟨rfl, k9⟩
                      have HD9 := Lib.hid (HD.out.keep0 k9)
                      have HO9 := Lib.hid (own_keep HO.out k9 (by simp))
                      clear k9 HD HO CA hc
                      go_wp2_with fail
                      exact ⟨⟨k + 1, by omega, rfl, HD9.out, HO9.out⟩, by simp only [intOf]; omega⟩
                    · obtain rfl : k = m := by omega
                      have i1 : ¬ ((k : Int) < (k : Int)) := by omega
                      go_wp2_with fail
                      exact ⟨⟨j + 1, DC, by omega, rfl, HD.out, HFE.out, HUP.out, HO.out⟩, by simp only [intOf]; omega⟩
              · have h9' : (q.x.dw % 16 == 9) = false := by simpa using h9
                go_wp2_with fail
                have hx' : OkO P ⟨q.x.dw, 1000000 + a3, 1000001 + b3, q.x.key, q.x.val, q.x.r⟩ := by
                  refine ⟨?_, ⟨by dsimp only; omega, by dsimp only; omega⟩, ⟨by dsimp only; omega, by dsimp only; omega⟩, HX.out.1.kd, HX.out.1.p, HX.out.1.v⟩
                  exact HX.out.1.dw
                have hup := HA.out.do_ (x := ⟨q.x.dw, 1000000 + a3, 1000001 + b3, q.x.key, q.x.val, q.x.r⟩) HC.out (by dsimp only; omega) (by dsimp only; omega) (fun h => by (unfold doing at h; dsimp only at h ⊢; omega))
                have HUP := Lib.hid hup
                have HFE := Lib.hid (HG.out.do_ (x := ⟨q.x.dw, 1000000 + a3, 1000001 + b3, q.x.key, q.x.val, q.x.r⟩) hx'.p hx'.n.2 hx'.v)
                have CD := Lib.hid (fun W (hk : Keeps [] wr W) => do_duo (HD.out.keep0 hk) HG.out (by omega) HP.out ⟨q.x.dw, 1000000 + a3, 1000001 + b3, q.x.key, q.x.val, q.x.r⟩ hx' q.A q.c (HZ.out.keep hk))
                clear hup hx'
                obtain ⟨dr, hdr⟩ : ∃ dr, doP D ⟨q.x.dw, 1000000 + a3, 1000001 + b3, q.x.key, q.x.val, q.x.r⟩ = dr := ⟨_, rfl⟩
                rw [hdr] at CD HUP HFE
                obtain ⟨⟨ds, dl, dn⟩, DC⟩ := dr
                dsimp only at CD HUP HFE
                clear hdr
                refine (CD.out _ ((Keeps.refl [] wr).alloc _)).mono ?_
                rintro e w8 ⟨⟨v8, rfl, -⟩, d8, kp8⟩
                have HO8 := Lib.hid (kp8.own (own_keep HO.out ((Keeps.refl [] wr).alloc _) (by simp)) (fun g hg => by simpa using hg))
                have HD8 := Lib.hid d8
                clear d8 kp8 HD HO HA HG HX HZ CD c0 c1 c2 c3 c4 c5 c6 c7 c8 e15 e3 e4 a0 a1 b0 b1 i0 i1 k0 kb
                go_wp2_with fail
                go_loopw [16] (fun iv wq => ∃ k : Nat, k ≤ m ∧ iv = .int .i64 k ∧ Duo w wq c d DC C (fp (.slice B2 m d2)) ∧ wq.ownsRow 0 3 1 (.slice B2 m d2) m (zs Q)) (fun iv _ => m - (intOf iv).toNat)
                case atStart => exact ⟨0, by omega, rfl, HD8.out, HO8.out⟩
                case round =>
                  obtain ⟨k, hk, rfl, hd, ho⟩ := hrel
                  clear HD8 HO8
                  have HD := Lib.hid hd
                  have HO := Lib.hid ho
                  clear hd ho
                  by_cases hkm : k < m
                  · obtain ⟨bq, oq, hBB, hcell⟩ := at_own HO.out (by omega)
                    have hkQ : k < Q.length := by rw [HM.out]; exact hkm
                    have hc := hcell k (.int .i64 Q[k]) (by simp [zs, hkQ])
                    have hlow := HLOW.out k hkQ
                    have hiq := HZI.out _ (List.getElem_mem hkQ)
                    obtain ⟨z, hz⟩ : ∃ z, Q[k] = z := ⟨_, rfl⟩
                    rw [hz] at hc hlow hiq
                    subst hBB
                    have i0 : (0 : Int) ≤ (k : Int) := by omega
                    have i1 : (k : Int) < (m : Int) := by omega
                    have CA := Lib.hid (HD.out.alike HFE.out.wf HF.out.wf HP.out hiq (HUP.out.alike HC.out HF.out.wf.tree hlow))
                    clear hcell hz hlow hiq hkQ
                    go_wp2_with fail
                    refine CA.out.mono ?_
                    rintro e w9 ⟨rfl, k9⟩
                    have HD9 := Lib.hid (HD.out.keep0 k9)
                    have HO9 := Lib.hid (own_keep HO.out k9 (by simp))
                    clear k9 HD HO CA hc
                    go_wp2_with fail
                    exact ⟨⟨k + 1, by omega, rfl, HD9.out, HO9.out⟩, by simp only [intOf]; omega⟩
                  · obtain rfl : k = m := by omega
                    have i1 : ¬ ((k : Int) < (k : Int)) := by omega
                    go_wp2_with fail
                    exact ⟨⟨j + 1, DC, by omega, rfl, HD.out, HFE.out, HUP.out, HO.out⟩, by simp only [intOf]; omega⟩
            · obtain rfl : j = M.length := by omega
              have i1 : ¬ ((M.length : Int) < (M.length : Int)) := by omega
              have hend := HA.out.end_ HC.out (by omega) HG.out.wf.tree
              have CA := Lib.hid (HD.out.calls (fun F G hC => abortOp_any hC HG.out.wf (HG.out.hl (by omega)) HI0.out))
              rw [hend] at CA
              clear hend
              go_wp2_with fail
              refine CA.out.mono ?_
              rintro e w9 ⟨rfl, hd9, -⟩
              have HD9 := Lib.hid hd9
              clear hd9 CA HD
              go_wp2_with fail
              refine (HD9.out.eq HF.out.wf HP.out (HF.out.hl (by omega))).mono ?_
              rintro e w10 ⟨rfl, k10⟩
              have K10 := Lib.hid (HD9.out.k.trans k10 (by simp))
              clear k10 HD9
              go_wp2_with fail
              go_ret
              exact ⟨rfl, K10.out⟩
end Go.Proofs.YtbllmpcpfmlemaaGreat
