/- The reference: Nest. -/
import Derived.Test.YtcopjjokhjealaaGreatN13
namespace Go.Proofs.YtcopjjokhjealaaGreat
open Go.RowKit

theorem LsOK.ins {w : World} {f : Int → Option Ln} {LV : List LnV} (h : LsOK w f LV) {k : Nat} (hk : k ≤ LV.length) {id par pid : Int} {its : List Int} {b : Option Nat} {c : Nat} (hlo : ∀ j (hj : j < LV.length), j < k → LV[j].id < id) (hhi : ∀ hk : k < LV.length, id < LV[k].id)
    (hno : f id = none) (ho : w.ownsRow 0 3 1 (.slice (b.map fun g => (⟨g, 0, none⟩ : Addr)) its.length c) its.length (zs its)) :
    LsOK w (updG f id (some ⟨par, pid, its⟩)) (LV.take k ++ ⟨id, par, pid, b, its.length, c⟩ :: LV.drop k) := by
  have hp := List.pairwise_iff_getElem.1 h.as1
  have hne : ∀ v ∈ LV, v.id ≠ id := fun v hv e => by
    obtain ⟨n, hn, -⟩ := h.ls v hv
    rw [e, hno] at hn; cases hn
  refine ⟨?_, fun v hv => ?_, fun x hx => ?_⟩
  · unfold Asc
    rw [List.map_append, List.map_cons, List.pairwise_append]
    have hall : ∀ c ∈ (LV.drop k).map (·.id), id < c := by
      intro c hc
      obtain ⟨v, hv, rfl⟩ := List.mem_map.1 hc
      obtain ⟨j, hj, rfl⟩ := List.getElem_of_mem hv
      rw [List.length_drop] at hj
      rw [List.getElem_drop]
      have h0 := hhi (by omega)
      by_cases e : j = 0
      · subst e; exact h0
      · have := hp k (k + j) (by simp; omega) (by simp; omega) (by omega)
        simp at this
        omega
    have hlo' : ∀ c ∈ (LV.take k).map (·.id), c < id := by
      intro c hc
      obtain ⟨v, hv, rfl⟩ := List.mem_map.1 hc
      obtain ⟨j, hj, rfl⟩ := List.getElem_of_mem hv
      rw [List.length_take] at hj
      rw [List.getElem_take]
      exact hlo j (by omega) (by omega)
    refine ⟨h.as1.sublist ((List.take_sublist _ _).map _), List.pairwise_cons.2 ⟨hall, h.as1.sublist ((List.drop_sublist _ _).map _)⟩, fun x hx y hy => ?_⟩
    rcases List.mem_cons.1 hy with rfl | hy
    · exact hlo' x hx
    · have := hlo' x hx; have := hall y hy; omega
  · have hold : v ∈ LV → ∃ n, updG f id (some ⟨par, pid, its⟩) v.id = some n ∧ LnAt w v.id v n := fun hv => by
      obtain ⟨n, h1, h2⟩ := h.ls v hv
      exact ⟨n, by rw [updG_ne _ _ (hne v hv)]; exact h1, h2⟩
    rcases List.mem_append.1 hv with hv | hv
    · exact hold (List.mem_of_mem_take hv)
    rcases List.mem_cons.1 hv with rfl | hv
    · exact ⟨_, updG_same _ _ _, rfl, rfl, rfl, rfl, ho⟩
    · exact hold (List.mem_of_mem_drop hv)
  · by_cases e : x = id
    · subst e; simp
    · rw [updG_ne _ _ e] at hx
      have := h.lc x hx
      rw [← List.take_append_drop k LV, List.map_append, List.mem_append] at this
      rw [List.map_append, List.map_cons, List.mem_append]
      rcases this with h | h
      · exact .inl h
      · exact .inr (List.mem_cons_of_mem _ h)
set_option maxRecDepth 100000 in
set_option maxHeartbeats 12800000 in
theorem nestQ_any (w : World) (G : List Nat) (q : Nat) (s : Pl) (nl nc : Nat) (h : QR w G q s nl nc) (hnl : nl ≤ 900) (hl : s.li.length ≤ 1000) (hid : ∀ x n, s.ln x = some n → 0 ≤ x ∧ x < 32) (par pid : Int) (A : Option Addr) (its : List Int) (ci : Nat) (hcap : its.length ≤ ci) (hz : AtZ w A its) :
    Calls Tryz.prog 33 #[.pointer (some ⟨q, 0, none⟩), .int .i64 par, .int .i64 pid, .slice A its.length ci] w fun e w' =>
      ∃ s' n en, e = .returned (.tuple #[.int .i64 n, .int .i64 en]) ∧ NesR par pid its s s' n en ∧ QN w w' G q s' (nl + 1) nc := by
  have HR : Hid (∀ W, Keeps [] w W → QN w W G q s (nl + 1) nc) := Lib.hid (fun W k => (QN.same h k).mono (by omega) (Nat.le_refl _))
  obtain ⟨LV, C, A1, A2, A3, c1, c2, c3, h, hb1, hb2⟩ := h
  have RQ := Lib.hid (rightQ_any w A its ci hcap hz)
  have HTQ : Hid (∀ W, Keeps [] w W → Calls Tryz.prog 60 #[.pointer (some ⟨q, 0, none⟩), .int .i64 par] W fun e w' => e = .returned (.int .i64 (triI s.li par)) ∧ w' = W) := Lib.hid (fun W k => triQ_any W q A2 s.li c2 par ((h.keep0 k).b.cell 1) (AtR.of_own (h.keep0 k).o2 (by omega)))
  have HQ0 : Hid (∀ W, Keeps [] w W → QAt W G q s LV C A1 A2 A3 c1 c2 c3) := Lib.hid (fun W k => h.keep0 k)
  have HID := Lib.hid hid
  have HZ0 := Lib.hid hz
  have hzm := hz.mx
  have hcn : LV.length = cntL s := by
    have := cntL_of hid (ks := LV.map (·.id)) (show (LV.map (·.id)).Nodup from h.as1.imp (fun h e => by omega)) (fun x => ⟨fun hx => by obtain ⟨v, hv, rfl⟩ := List.mem_map.1 hx; obtain ⟨n, hn, -⟩ := h.ls v hv; rw [hn]; rfl, h.lc x⟩)
    rw [List.length_map] at this
    exact this
  clear h hid hz
  cases hr : rightL its with
  | false =>
    have HE : Hid (NesR par pid its s s 0 1) := Lib.hid (.inl ⟨hr, rfl, rfl, rfl⟩)
    rw [hr] at RQ
    clear hr hcn
    go_enter Tryz.func33, Tryz.ntmps33
    go_wp2_with fail
    refine RQ.out.mono ?_
    rintro e w1 ⟨rfl, k1⟩
    have QQ := Lib.hid (HR.out w1 k1)
    clear k1
    go_wp2_with fail
    go_ret2
    exact ⟨s, 0, 1, rfl, HE.out, QQ.out⟩
  | true =>
  have HRT := Lib.hid hr
  rw [hr] at RQ
  clear hr
  by_cases htr : triI s.li par < 0
  · have HE : Hid (NesR par pid its s s 0 4) := Lib.hid (.inr (.inl ⟨HRT.out, htr, rfl, rfl, rfl⟩))
    obtain ⟨I, hI⟩ : ∃ I, triI s.li par = I := ⟨_, rfl⟩
    rw [hI] at HTQ htr
    clear hI hcn
    go_enter Tryz.func33, Tryz.ntmps33
    go_wp2_with fail
    refine RQ.out.mono ?_
    rintro e w1 ⟨rfl, k1⟩
    have QQ := Lib.hid (HR.out w1 k1)
    have TT := Lib.hid (HTQ.out w1 k1)
    clear k1
    go_wp2_with fail
    refine TT.out.mono ?_
    rintro e w1 ⟨rfl, rfl⟩
    go_wp2_with fail
    go_ret2
    exact ⟨s, 0, 4, rfl, HE.out, QQ.out⟩
  have HTR := Lib.hid htr
  obtain ⟨I, hI⟩ : ∃ I, triI s.li par = I := ⟨_, rfl⟩
  have hI0 : ¬ I < 0 := by rw [← hI]; exact htr
  rw [hI] at HTQ
  have HCN0 := Lib.hid hcn
  clear hI htr hcn
  go_enter Tryz.func33, Tryz.ntmps33
  go_wp2_with fail
  refine RQ.out.mono ?_
  rintro e w1 ⟨rfl, k1⟩
  have TT := Lib.hid (HTQ.out w1 k1)
  have K1 := Lib.hid k1
  have HQA : Hid (∀ W, Keeps [] w1 W → QAt W G q s LV C A1 A2 A3 c1 c2 c3) := Lib.hid (fun W kW => HQ0.out W (K1.out.trans kW (by simp)))
  have f0 := (HQA.out w1 (Keeps.refl _ _)).b.cell 0
  have hqr : q < w1.heap.size := (HQA.out w1 (Keeps.refl _ _)).b.lt
  have HZ := Lib.hid (HZ0.out.keep k1)
  have HLN : Hid (∀ x, Calls Tryz.prog 37 #[.pointer (some ⟨q, 0, none⟩), .int .i64 x] w1 fun e w' => e = .returned (.int .i64 (lnI LV x)) ∧ w' = w1) := Lib.hid (fun x => lineQ_any w1 q A1 LV c1 x f0 (AtV.of_own (HQA.out w1 (Keeps.refl _ _)).o1 (by omega)))
  have HAV := Lib.hid (AtV.of_own (HQA.out w1 (Keeps.refl _ _)).o1 (by omega))
  clear k1 HQ0 HZ0
  go_wp2_with fail
  refine TT.out.mono ?_
  rintro e w1 ⟨rfl, rfl⟩
  go_wp2_with fail
  go_loop [10] (fun iv => ∃ j : Nat, j ≤ LV.length ∧ iv = .int .i64 j ∧ ∀ i (hi : i < LV.length), i < j → ¬ (LV[i].par = par ∧ LV[i].pid = pid)) (fun iv => LV.length - (intOf iv).toNat)
  case atStart => exact ⟨0, by omega, rfl, fun i hi h => absurd h (by omega)⟩
  case round =>
    obtain ⟨j, hj, rfl, hno⟩ := hrel
    have HNO := Lib.hid hno
    clear hno
    by_cases hlt : j < LV.length
    · obtain ⟨bl, off, hAA, hbl, hc⟩ := HAV.out.at_ (by omega)
      subst hAA
      obtain ⟨-, d1, d2, -⟩ := hc j hlt
      have i0 : (0 : Int) ≤ (j : Int) := by omega
      have i1 : (j : Int) < (LV.length : Int) := by omega
      obtain ⟨y, hy⟩ : ∃ y, LV[j].par = y := ⟨_, rfl⟩
      obtain ⟨z, hz⟩ : ∃ y, LV[j].pid = y := ⟨_, rfl⟩
      rw [hy] at d1
      rw [hz] at d2
      have HYZ := Lib.hid (And.intro hy hz)
      clear hc hy hz
      by_cases e1 : y = par
      · by_cases e2 : z = pid
        · have HE : Hid (NesR par pid its s s 0 5) := Lib.hid (.inr (.inr (.inl ⟨HRT.out, (show ¬ triI s.li par < 0 by have := HTR.out; omega), by
            obtain ⟨n, h1, h2, h3, h4, -⟩ := (HQA.out w1 (Keeps.refl _ _)).ls _ (List.getElem_mem hlt)
            exact ⟨_, n, h1, by rw [← h3, HYZ.out.1, e1], by rw [← h4, HYZ.out.2, e2]⟩, rfl, rfl, rfl⟩)))
          go_wp2_with fail
          go_ret2
          exact ⟨s, 0, 5, rfl, HE.out, HR.out w1 K1.out⟩
        · go_wp2_with fail
          go_round
          case rel =>
            refine ⟨j + 1, by omega, by go_num, fun i hi hij => ?_⟩
            by_cases e : i = j
            · subst e; rw [HYZ.out.1, HYZ.out.2]; exact fun h => e2 h.2
            · exact HNO.out i hi (by omega)
          case measure => simp [intOf]; omega
      · go_wp2_with fail
        go_round
        case rel =>
          refine ⟨j + 1, by omega, by go_num, fun i hi hij => ?_⟩
          by_cases e : i = j
          · subst e; rw [HYZ.out.1]; exact fun h => e1 h.1
          · exact HNO.out i hi (by omega)
        case measure => simp [intOf]; omega
    · obtain rfl : j = LV.length := by omega
      have HNT : Hid (¬ ∃ x m, s.ln x = some m ∧ m.par = par ∧ m.pid = pid) := Lib.hid (by
        rintro ⟨x, m, h1, h2, h3⟩
        have hh := HQA.out w1 (Keeps.refl _ _)
        obtain ⟨v, hv, rfl⟩ := List.mem_map.1 (hh.lc x (by rw [h1]; rfl))
        obtain ⟨i, hi, rfl⟩ := List.getElem_of_mem hv
        obtain ⟨n, g1, g2, g3, g4, -⟩ := hh.ls _ (List.getElem_mem hi)
        rw [h1] at g1
        injection g1 with g1
        subst g1
        exact HNO.out i hi hi ⟨by rw [g3, h2], by rw [g4, h3]⟩)
      clear HNO hlt
      by_cases h32 : 32 ≤ LV.length
      · have HE : Hid (NesR par pid its s s 0 6) := Lib.hid (.inr (.inr (.inr (.inl ⟨HRT.out, (show ¬ triI s.li par < 0 by have := HTR.out; omega), HNT.out, by rw [← HCN0.out]; exact h32, rfl, rfl, rfl⟩))))
        have i32 : (32 : Int) ≤ (LV.length : Int) := by omega
        go_wp2_with fail
        go_ret2
        exact ⟨s, 0, 6, rfl, HE.out, HR.out w1 K1.out⟩
      have i32 : ¬ (32 : Int) ≤ (LV.length : Int) := by omega
      have HCN : Hid (cntL s < 32) := Lib.hid (by rw [← HCN0.out]; omega)
      go_wp2_with fail
      clear i32
      go_loop [11] (fun iv => ∃ id : Int, 1 ≤ id ∧ id ≤ 32 ∧ iv = .int .i64 id ∧ ∀ i : Int, 1 ≤ i → i < id → (s.ln i).isSome = true) (fun iv => (33 - intOf iv).toNat)
      case atStart => exact ⟨1, by omega, by omega, rfl, fun i h1 h2 => absurd h2 (by omega)⟩
      case round =>
        obtain ⟨id, h1, h2, rfl, hall⟩ := hrel
        have HALL := Lib.hid hall
        have LQ := Lib.hid (HLN.out id)
        clear hall
        rcases (HQA.out w1 (Keeps.refl _ _)).line id with ⟨e1, e2⟩ | ⟨k, hk, n, e1, -, e2, -⟩
        · rw [e1] at LQ
          have HNEW : Hid (IsNew s id) := Lib.hid ⟨h1, e2, HALL.out⟩
          clear e1 e2 HALL
          go_wp2_with fail
          refine LQ.out.mono ?_
          rintro e w1 ⟨rfl, rfl⟩
          go_wp2_with fail
          go_loop [12] (fun iv => ∃ k : Nat, k ≤ LV.length ∧ iv = .int .i64 k ∧ ∀ i (hi : i < LV.length), i < k → LV[i].id < id) (fun iv => LV.length - (intOf iv).toNat)
          case atStart => exact ⟨0, by omega, rfl, fun i hi h => absurd h (by omega)⟩
          case round =>
            obtain ⟨k, hk, rfl, hlo⟩ := hrel
            have HLO := Lib.hid hlo
            clear hlo
            by_cases hlt : k < LV.length
            · obtain ⟨bl, off, hAA, hbl, hc⟩ := HAV.out.at_ (by omega)
              subst hAA
              obtain ⟨d0, -⟩ := hc k hlt
              have i0 : (0 : Int) ≤ (k : Int) := by omega
              have i1 : (k : Int) < (LV.length : Int) := by omega
              obtain ⟨y, hy⟩ : ∃ y, LV[k].id = y := ⟨_, rfl⟩
              rw [hy] at d0
              have HY := Lib.hid hy
              clear hc hy
              by_cases e1 : y < id
              · go_wp2_with fail
                go_round
                case rel =>
                  refine ⟨k + 1, by omega, by go_num, fun i hi hij => ?_⟩
                  by_cases e : i = k
                  · subst e; rw [HY.out]; exact e1
                  · exact HLO.out i hi (by omega)
                case measure => simp [intOf]; omega
              · have HHI : Hid (∀ hk : k < LV.length, id < LV[k].id) := Lib.hid (fun _ => by
                  rw [HY.out]
                  have hne : y ≠ id := fun e => by
                    obtain ⟨n, g1, -⟩ := (HQA.out w1 (Keeps.refl _ _)).ls _ (List.getElem_mem hlt)
                    rw [HY.out, e, HNEW.out.2.1] at g1
                    cases g1
                  omega)
                obtain ⟨_, _, hv, hcl, -, -⟩ := own_shape (HQA.out w1 (Keeps.refl _ _)).o1
                obtain rfl : c1 = _ := by injection hv
                have HRD : Hid (∀ W, Keeps [] w1 W → Reads W W.heap.size 4 (some ⟨bl, off, none⟩) LV.length (rw lcs LV)) := Lib.hid (fun W kW => reads_own (HQA.out W kW).o1)
                clear hv HAV HLN hbl
                go_wp2_with fail
                go_upto_region 18 with fail
                refine nq18_any w1 q par pid id A (its.length) ci (zs its) LV.length k c1 (LV.length - k) (c1 - k) (LV.length + 1) (some ⟨bl, off, none⟩) _ ((rw lcs LV).take (k * 4)) ((rw lcs LV).drop (k * 4)) _ (by omega) (by omega) (by omega) (by omega)
                  (fun W kW => (HQA.out W kW).b.cell 0) (fun W kW => (HQA.out W kW).b.frozen 0) (run_take62 _ _ _ k (by omega) (by omega)) (run_drop62 _ _ _ k (by omega)) (fun W kW => (HRD.out W kW).take (by omega)) (fun W kW => (HRD.out W kW).cut (by omega) (by omega))
                  (fun u hu => rw_one lcs_one _ u (List.mem_of_mem_take hu)) (fun u hu => rw_one lcs_one _ u (List.mem_of_mem_drop hu)) (fun W kW => reads_z (HZ.out.keep kW)) (zs_one _) (by omega) _ _ _ _ _ _ _ _ _ _ _ _ _ _ _ _ _ _ _ _ _ _ _ _ _ _ _ _ _ _ _ _ _ _ _ _ _ _ _ _ _ _ _ _ _ _ _ _ _ _ _ _ _ _ _ _ _ _ _ _ _ _ _ _ _ _ _ _ _ _ _ _ _ _ _ _ _ _ _ _ _ _ _ _ _ _ _ _ _ _ _ _ _ _ _ _ _ _ _ _ _ _ _ _ _ _ ?_
                intro v84 v85 v86 v87 v88 v89 v90 v91 v92 v93 v94 v95 v96 v97 v98 v99 v100 v101 v102 v103 v104 v105 v106 v107 v108 v109 v110 Ai c4 v3 W4 ho4 hz4 hf4 hk4 hg4
                have HO4 : Hid (W4.ownsRow 0 3 1 (.slice Ai its.length c4) its.length (zs its)) := Lib.hid (by simpa using hz4)
                obtain ⟨b4, rfl⟩ := fpmap HO4.out
                have hlen : (LV.take k ++ ⟨id, par, pid, b4, its.length, c4⟩ :: LV.drop k).length = LV.length + 1 := by rw [List.length_append, List.length_cons, List.length_take, List.length_drop]; omega
                have HL4 : Hid (W4.ownsRow 0 56 4 v3 (LV.take k ++ ⟨id, par, pid, b4, its.length, c4⟩ :: LV.drop k).length (rw lcs (LV.take k ++ ⟨id, par, pid, b4, its.length, c4⟩ :: LV.drop k))) := Lib.hid (by
                  rw [hlen, rw_append, rw_cons, ← rw_take lcs_len4, ← rw_drop lcs_len4]
                  have := ho4
                  rw [List.nil_append] at this
                  rw [← List.append_assoc]
                  exact this)
                obtain ⟨A5, c5, rfl, -, -, -⟩ := own_shape HL4.out
                obtain ⟨G2, hG2, hs2⟩ := (HQA.out W4 hk4).putL (s' := ⟨updG s.ln id (some ⟨par, pid, its⟩), s.li, s.ct⟩) HL4.out (w := w1) hg4 hqr rfl rfl ((HQA.out W4 hk4).lsOK.ins (k := k) (by omega) HLO.out HHI.out HNEW.out.2.1 HO4.out)
                have HG2 := Lib.hid hG2
                have HS2 := Lib.hid hs2
                have KK := Lib.hid hk4
                clear hG2 hs2 ho4 hz4 hf4 hk4 hg4 HL4 HO4 HRD HQA HZ
                go_wp2_with fail
                go_ret2
                have hz1 := K1.out.size
                exact ⟨_, id, 0, rfl, .inr (.inr (.inr (.inr ⟨HRT.out, (show ¬ triI s.li par < 0 by have := HTR.out; omega), HNT.out, HCN.out, HNEW.out, rfl, rfl⟩))), ⟨G2, ⟨_, _, _, _, _, _, _, _, HG2.out, by rw [hlen]; omega, by omega⟩, ((K1.out.trans KK.out (by simp)).mono (by simp)).setCell (.inl (by simp)) _, fun g hg => (HS2.out g hg).imp_right (fun h => Nat.le_trans hz1 h)⟩⟩
            · obtain rfl : k = LV.length := by omega
              have HHI : Hid (∀ hk : LV.length < LV.length, id < LV[LV.length].id) := Lib.hid (fun h => absurd h (by omega))
              obtain ⟨_, _, hv, hcl, -, -⟩ := own_shape (HQA.out w1 (Keeps.refl _ _)).o1
              obtain rfl : c1 = _ := by injection hv
              have HRD : Hid (∀ W, Keeps [] w1 W → Reads W W.heap.size 4 A1 LV.length (rw lcs LV)) := Lib.hid (fun W kW => reads_own (HQA.out W kW).o1)
              clear hv HAV HLN
              go_wp2_with fail
              go_upto_region 18 with fail
              refine nq18_any w1 q par pid id A (its.length) ci (zs its) LV.length LV.length c1 (LV.length - LV.length) (c1 - LV.length) (LV.length + 1) (A1) _ ((rw lcs LV).take (LV.length * 4)) ((rw lcs LV).drop (LV.length * 4)) _ (by omega) (by omega) (by omega) (by omega)
                (fun W kW => (HQA.out W kW).b.cell 0) (fun W kW => (HQA.out W kW).b.frozen 0) (run_take62 _ _ _ LV.length (by omega) (by omega)) (run_drop62 _ _ _ LV.length (by omega)) (fun W kW => (HRD.out W kW).take (by omega)) (fun W kW => (HRD.out W kW).cut (by omega) (by omega))
                (fun u hu => rw_one lcs_one _ u (List.mem_of_mem_take hu)) (fun u hu => rw_one lcs_one _ u (List.mem_of_mem_drop hu)) (fun W kW => reads_z (HZ.out.keep kW)) (zs_one _) (by omega) _ _ _ _ _ _ _ _ _ _ _ _ _ _ _ _ _ _ _ _ _ _ _ _ _ _ _ _ _ _ _ _ _ _ _ _ _ _ _ _ _ _ _ _ _ _ _ _ _ _ _ _ _ _ _ _ _ _ _ _ _ _ _ _ _ _ _ _ _ _ _ _ _ _ _ _ _ _ _ _ _ _ _ _ _ _ _ _ _ _ _ _ _ _ _ _ _ _ _ _ _ _ _ _ _ _ ?_
              intro v84 v85 v86 v87 v88 v89 v90 v91 v92 v93 v94 v95 v96 v97 v98 v99 v100 v101 v102 v103 v104 v105 v106 v107 v108 v109 v110 Ai c4 v3 W4 ho4 hz4 hf4 hk4 hg4
              have HO4 : Hid (W4.ownsRow 0 3 1 (.slice Ai its.length c4) its.length (zs its)) := Lib.hid (by simpa using hz4)
              obtain ⟨b4, rfl⟩ := fpmap HO4.out
              have hlen : (LV.take LV.length ++ ⟨id, par, pid, b4, its.length, c4⟩ :: LV.drop LV.length).length = LV.length + 1 := by rw [List.length_append, List.length_cons, List.length_take, List.length_drop]; omega
              have HL4 : Hid (W4.ownsRow 0 56 4 v3 (LV.take LV.length ++ ⟨id, par, pid, b4, its.length, c4⟩ :: LV.drop LV.length).length (rw lcs (LV.take LV.length ++ ⟨id, par, pid, b4, its.length, c4⟩ :: LV.drop LV.length))) := Lib.hid (by
                rw [hlen, rw_append, rw_cons, ← rw_take lcs_len4, ← rw_drop lcs_len4]
                have := ho4
                rw [List.nil_append] at this
                rw [← List.append_assoc]
                exact this)
              obtain ⟨A5, c5, rfl, -, -, -⟩ := own_shape HL4.out
              obtain ⟨G2, hG2, hs2⟩ := (HQA.out W4 hk4).putL (s' := ⟨updG s.ln id (some ⟨par, pid, its⟩), s.li, s.ct⟩) HL4.out (w := w1) hg4 hqr rfl rfl ((HQA.out W4 hk4).lsOK.ins (k := LV.length) (by omega) HLO.out HHI.out HNEW.out.2.1 HO4.out)
              have HG2 := Lib.hid hG2
              have HS2 := Lib.hid hs2
              have KK := Lib.hid hk4
              clear hG2 hs2 ho4 hz4 hf4 hk4 hg4 HL4 HO4 HRD HQA HZ
              go_wp2_with fail
              go_ret2
              have hz1 := K1.out.size
              exact ⟨_, id, 0, rfl, .inr (.inr (.inr (.inr ⟨HRT.out, (show ¬ triI s.li par < 0 by have := HTR.out; omega), HNT.out, HCN.out, HNEW.out, rfl, rfl⟩))), ⟨G2, ⟨_, _, _, _, _, _, _, _, HG2.out, by rw [hlen]; omega, by omega⟩, ((K1.out.trans KK.out (by simp)).mono (by simp)).setCell (.inl (by simp)) _, fun g hg => (HS2.out g hg).imp_right (fun h => Nat.le_trans hz1 h)⟩⟩
        · rw [e1] at LQ
          have hid2 := (HID.out id n e2).2
          have HS : Hid ((s.ln id).isSome = true) := Lib.hid (by rw [e2]; rfl)
          have k0 : (0 : Int) ≤ (k : Int) := by omega
          clear e1 e2
          go_wp2_with fail
          refine LQ.out.mono ?_
          rintro e w1 ⟨rfl, rfl⟩
          go_wp2_with fail
          go_round
          case rel =>
            refine ⟨id + 1, by omega, by omega, by go_num, fun i g1 g2 => ?_⟩
            by_cases e : i = id
            · rw [e]; exact HS.out
            · exact HALL.out i g1 (by omega)
          case measure => simp [intOf]; omega
end Go.Proofs.YtcopjjokhjealaaGreat
