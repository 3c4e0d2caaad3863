/- W44, over the merged texts. -/
import Derived.Test.YtbllmpcpfmlemaaMV
namespace Go.Proofs.Ytbllmpcpfmlemaa
open Go.RowKit

/-- The operations at the place k. -/
theorem AtO.get {w : World} {A : Option Addr} {L : List Oq} (h : AtO w A L) {k : Nat} (hk : k < L.length) : ∃ b off, A = some ⟨b, off, none⟩ ∧
    w.cell? ⟨b, off + k * 9, none⟩ = some (.int .i64 L[k].x.dw) ∧ w.cell? ⟨b, off + k * 9 + 1, none⟩ = some (.int .i64 L[k].x.who) ∧ w.cell? ⟨b, off + k * 9 + 2, none⟩ = some (.int .i64 L[k].x.n) ∧
    w.cell? ⟨b, off + k * 9 + 3, none⟩ = some (sv L[k].x.key) ∧ w.cell? ⟨b, off + k * 9 + 4, none⟩ = some (sv L[k].x.val) ∧ w.cell? ⟨b, off + k * 9 + 5, none⟩ = some (.int .i64 L[k].x.r.kind) ∧
    w.cell? ⟨b, off + k * 9 + 6, none⟩ = some (sv L[k].x.r.key) ∧ w.cell? ⟨b, off + k * 9 + 7, none⟩ = some (sv L[k].x.r.val) ∧ w.cell? ⟨b, off + k * 9 + 8, none⟩ = some (.slice L[k].A L[k].x.r.list.length L[k].c) := by
  obtain ⟨b, off, h1, _, h3⟩ := h.at_ (by omega)
  exact ⟨b, off, h1, h3 k hk⟩
theorem Fix.wr {C : St} {i : Int} {B : List (Str × Str)} {k v : Str} {q : List Str} (h : Fix C i B k v q) : wrP C i = B := by
  obtain ⟨x, hx, hB, _⟩ := h
  unfold wrP
  rw [hx]
  exact hB
theorem seesKeys_len {P : List Str} {C : St} (hW : WF P C) (hP : PoolOk P) (i : Int) (k : Str) : (seesKeys C i k).length ≤ 1000000 := hP.le (seesKeys_ok hW.ok i k).1 (fun s hs => ((seesKeys_ok hW.ok i k).2 s hs).1)
set_option maxRecDepth 1000000 in
set_option maxHeartbeats 25600000 in
theorem repeat_walk (w : World) (A B : Option Addr) (L M : List Oq) (ca cb : Nat) (i : Int) (ky : Str) (hA : AtO w A L) (hB : AtO w B M) (hi : I64 i) (hky : ky.length ≤ 9223372036854775807) :
    Calls Try.prog 3 #[.slice A L.length ca, .int .i64 i, sv ky, .slice B M.length cb] w fun e w' => e = .returned (.bool true) ∧ Keeps [] w w' := by
  have HL := Lib.hid hA
  have HM := Lib.hid hB
  have mL := hA.mx
  have mM := hB.mx
  have HI := Lib.hid hi
  have CS := Lib.hid (small_any w)
  clear hA hB hi
  go_enter Try.func3, Try.ntmps3
  go_wp2_with fail
  refine CS.out.mono ?_
  rintro e w1 ⟨rfl, k1⟩
  have K1 := Lib.hid k1
  clear k1 CS
  go_wp2_with fail
  refine (new_any w1).mono ?_
  rintro e w2 ⟨c, F, rfl, hc, hF, k2⟩
  have HO : Hid (Sta w w2 c new0 [] []) := Lib.hid (Sta.of ⟨F, [], hc, fun g hg => Nat.le_trans K1.out.size (hF g hg), K1.out.trans k2 (by simp)⟩)
  clear hc hF k2 K1
  have CF := Lib.hid (few_any w2 A L ca 40 (HL.out.keep HO.out.k))
  have CG := Lib.hid (few_any w2 B M cb 30 (HM.out.keep HO.out.k))
  obtain ⟨V, hV⟩ : ∃ V, fewB L 40 = V := ⟨_, rfl⟩
  obtain ⟨V2, hV2⟩ : ∃ V, fewB M 30 = V := ⟨_, rfl⟩
  rw [hV] at CF
  rw [hV2] at CG
  have HV := Lib.hid hV
  have HV2 := Lib.hid hV2
  clear hV hV2
  cases V with
  | false =>
    go_wp2_with fail
    refine CF.out.mono ?_
    rintro e w3 ⟨rfl, rfl⟩
    go_wp2_with fail
    go_ret
    exact ⟨rfl, HO.out.k⟩
  | true =>
  cases V2 with
  | false =>
    go_wp2_with fail
    refine CF.out.mono ?_
    rintro e w3 ⟨rfl, rfl⟩
    go_wp2_with fail
    refine CG.out.mono ?_
    rintro e w4 ⟨rfl, rfl⟩
    go_wp2_with fail
    go_ret
    exact ⟨rfl, HO.out.k⟩
  | true =>
  by_cases hlong : 30 < ky.length
  · go_wp2_with fail
    refine CF.out.mono ?_
    rintro e w3 ⟨rfl, rfl⟩
    go_wp2_with fail
    refine CG.out.mono ?_
    rintro e w4 ⟨rfl, rfl⟩
    go_wp2_with fail
    go_ret
    exact ⟨rfl, HO.out.k⟩
  have l40 : L.length ≤ 40 := by have := (few_spec HV.out).1; omega
  have l30 : M.length ≤ 30 := by have := (few_spec HV2.out).1; omega
  obtain ⟨P, hP1, hP2, hP3, hP4⟩ : ∃ P, PoolOk P ∧ (∀ k ∈ poolL L, k ∈ P) ∧ (∀ k ∈ poolL M, k ∈ P) ∧ ky ∈ P := by
    refine ⟨poolL L ++ poolL M ++ [ky], PoolOk.mk' (fun s hs => ?_) ?_, fun k hk => by simp [hk], fun k hk => by simp [hk], by simp⟩
    · rw [List.mem_append, List.mem_append] at hs
      rcases hs with (hs | hs) | hs
      · exact poolL_short HV.out s hs
      · exact poolL_short HV2.out s hs
      · rw [List.mem_singleton.1 hs]; omega
    · have h1 := poolL_len (L := L) (fun q hq => ((few_spec HV.out).2 q hq).2.1)
      have h2 := poolL_len (L := M) (fun q hq => ((few_spec HV2.out).2 q hq).2.1)
      rw [List.length_append, List.length_append, List.length_singleton]
      omega
  have HP := Lib.hid hP1
  have HOKL := Lib.hid (OkL.of HL.out HV.out hP2)
  have HOKM := Lib.hid (OkL.of HM.out HV2.out hP3)
  have HKY := Lib.hid hP4
  clear hP1 hP2 hP3 hP4 HV HV2
  go_wp2_with fail
  refine CF.out.mono ?_
  rintro e w3 ⟨rfl, rfl⟩
  clear CF
  go_wp2_with fail
  refine CG.out.mono ?_
  rintro e w3 ⟨rfl, rfl⟩
  clear CG
  go_wp2_with fail
  go_loopw [11] (fun iv wr => ∃ (k : Nat) (C : St), k ≤ L.length ∧ iv = .int .i64 k ∧ Sta w wr c C [] [] ∧ Fit P k C) (fun iv _ => L.length - (intOf iv).toNat)
  case atStart => exact ⟨0, new0, by omega, rfl, HO.out, Fit.new0 P⟩
  case round =>
    obtain ⟨k, C, hk, rfl, ho, hf⟩ := hrel
    clear HO
    have HO := Lib.hid ho
    have HF := Lib.hid hf
    clear ho hf
    by_cases hlt : k < L.length
    · obtain ⟨bl, off, hAA, c0, c1, c2, c3, c4, c5, c6, c7, c8⟩ := (HL.out.keep (HO.out.k)).get hlt
      have HX := Lib.hid (HOKL.out _ (List.getElem_mem hlt))
      have HZ := Lib.hid ((HL.out.keep (HO.out.k)).ml _ (List.getElem_mem hlt) HX.out.2)
      subst hAA
      obtain ⟨q, hq⟩ : ∃ q, L[k] = q := ⟨_, rfl⟩
      rw [hq] at c0 c1 c2 c3 c4 c5 c6 c7 c8 HX HZ
      clear hq
      have i0 : (0 : Int) ≤ (k : Int) := by omega
      have i1 : (k : Int) < (L.length : Int) := by omega
      go_wp2_with fail
      refine (do_sta HO.out HF.out (by omega) HP.out q.x HX.out.1 q.A q.c HZ.out).mono ?_
      rintro e w5 ⟨⟨v, rfl, -, -⟩, ho5, -⟩
      have HO5 := Lib.hid ho5
      have HF5 : Hid (Fit P (k + 1) (doP C q.x).2) := Lib.hid (HF.out.do_ HX.out.1.p HX.out.1.n.2 HX.out.1.v)
      clear ho5 HO HF HX HZ c0 c1 c2 c3 c4 c5 c6 c7 c8
      go_wp2_with fail
      exact ⟨⟨k + 1, _, by omega, rfl, HO5.out, HF5.out⟩, by simp only [intOf]; omega⟩
    · obtain rfl : k = L.length := by omega
      have i1 : ¬ ((L.length : Int) < (L.length : Int)) := by omega
      by_cases h1 : i < 1
      · go_wp2_with fail
        go_ret
        exact ⟨rfl, HO.out.k⟩
      have hiv : ∃ V, decide (i ∈ liveP C) = V := ⟨_, rfl⟩
      obtain ⟨V, hV⟩ := hiv
      have HV := Lib.hid hV
      clear hV
      go_wp2_with fail
      refine (live_sta HO.out HF.out (by omega)).mono ?_
      rintro e w5 ⟨⟨v5, rfl, ho5, -⟩, k5⟩
      obtain ⟨B5, d5, rfl, -, -, -⟩ := own_shape ho5
      have HO5 := Lib.hid (HO.out.keep0 k5)
      have CH := has_any w5 B5 (liveP C) d5 i (AtZ.of_own ho5 (by have := live_len (C := C); have := HF.out.len; omega))
      rw [HV.out] at CH
      have CH := Lib.hid CH
      clear ho5 k5 HO
      go_wp2_with fail
      refine CH.out.mono ?_
      rintro e w6 ⟨rfl, rfl⟩
      clear CH
      cases V with
      | false =>
        go_wp2_with fail
        go_ret
        exact ⟨rfl, HO5.out.k⟩
      | true =>
      have hlive := ((live_ok HF.out.wf.tree).2 i).1 (of_decide_eq_true HV.out)
      obtain ⟨x, hx⟩ := has_find hlive.2
      have hfx := (Fix.start HF.out.wf.tree hlive.1 hx ky)
      obtain ⟨BW, hBW⟩ : ∃ BW, x.wr = BW := ⟨_, rfl⟩
      rw [hBW] at hfx
      clear hBW
      obtain ⟨v, hv⟩ : ∃ v, sees (askP C i ky) i ky = v := ⟨_, rfl⟩
      obtain ⟨qq, hqq⟩ : ∃ qq, seesKeys (askKP (askP C i ky) i ky) i ky = qq := ⟨_, rfl⟩
      have CG := get_sta HO5.out HF.out HP.out HI.out ky HKY.out
      rw [hv] at CG hfx
      have CG := Lib.hid CG
      rw [hqq] at hfx
      clear hlive HV
      have h0 : i ≠ 0 := by omega
      go_wp2_with fail
      refine CG.out.mono ?_
      rintro e w7 ⟨rfl, ho7, -⟩
      have HO7 := Lib.hid ho7
      have HF7 := Lib.hid (HF.out.ask i HKY.out)
      clear ho7 CG HO5
      have CK := keys_sta HO7.out HF7.out HP.out HI.out ky HKY.out
      rw [hqq] at CK
      have CK := Lib.hid CK
      go_wp2_with fail
      refine CK.out.mono ?_
      rintro e w8 ⟨⟨v8, rfl, or8, of8⟩, ho8, -⟩
      have HF8 := Lib.hid (HF7.out.askK i HKY.out)
      obtain ⟨B8, d8, rfl, -, -, -⟩ := own_shape or8
      have hql := seesKeys_len (HF7.out.askK i HKY.out).wf HP.out i ky
      rw [hqq] at hql
      have HQL := Lib.hid hql
      clear CK hqq hql
      have HR8 := Lib.hid or8
      have HO8 := Lib.hid (ho8.addRow or8 (by decide) (by decide) (by decide))
      obtain ⟨C8, hC8⟩ : ∃ C8, askKP (askP C i ky) i ky = C8 := ⟨_, rfl⟩
      rw [hC8] at HO8 HF8 hfx
      have HFX := Lib.hid hfx
      clear or8 of8 ho8 hC8 HO7 HF7 HF hv hx x hfx
      go_wp2_with fail
      refine (writes_sta HO8.out HF8.out HP.out HI.out).mono ?_
      rintro e w9 ⟨⟨v9, rfl, or9, -⟩, k9⟩
      have hbl := wrP_len HF8.out.wf HP.out i
      rw [HFX.out.wr] at or9 hbl
      obtain ⟨B9, d9, rfl, -, -, -⟩ := own_shape or9
      have HBL := Lib.hid hbl
      have HR8b := Lib.hid (own_keep HR8.out k9 (by simp))
      have HR9 := Lib.hid or9
      have HO9 := Lib.hid ((HO8.out.keep0 k9).addRow or9 (by decide) (by decide) (by decide))
      clear or9 k9 HO8 HR8 hbl i1
      go_wp2_with fail
      go_loopw [15] (fun iv wr => ∃ (k : Nat) (D : St), k ≤ M.length ∧ iv = .int .i64 k ∧ Sta w wr c D [] (fp (.slice B9 BW.length d9) ++ (fp (.slice B8 qq.length d8) ++ [])) ∧ Fit P (40 + k) D ∧ Fix D i BW ky v qq ∧ wr.ownsRow 0 9 1 (.slice B8 qq.length d8) qq.length (vs qq) ∧ wr.ownsRow 0 79 2 (.slice B9 BW.length d9) BW.length (rw pc BW)) (fun iv _ => M.length - (intOf iv).toNat)
      case atStart => exact ⟨0, C8, by omega, rfl, HO9.out, HF8.out.mono (by omega), HFX.out, HR8b.out, HR9.out⟩
      case round =>
        obtain ⟨k, D, hk, rfl, ho, hf, hfx, hr8, hr9⟩ := hrel
        clear HO9 HF8 HFX HR8b HR9
        have HO := Lib.hid ho
        have HF := Lib.hid hf
        have HFX := Lib.hid hfx
        have HR8 := Lib.hid hr8
        have HR9 := Lib.hid hr9
        clear ho hf hfx hr8 hr9
        by_cases hlt : k < M.length
        · obtain ⟨bl, off, hAA, c0, c1, c2, c3, c4, c5, c6, c7, c8⟩ := (HM.out.keep (HO.out.k)).get hlt
          have HX := Lib.hid (HOKM.out _ (List.getElem_mem hlt))
          have HZ := Lib.hid ((HM.out.keep (HO.out.k)).ml _ (List.getElem_mem hlt) HX.out.2)
          subst hAA
          obtain ⟨q, hq⟩ : ∃ q, M[k] = q := ⟨_, rfl⟩
          rw [hq] at c0 c1 c2 c3 c4 c5 c6 c7 c8 HX HZ
          clear hq
          have i0 : (0 : Int) ≤ (k : Int) := by omega
          have i1 : (k : Int) < (M.length : Int) := by omega

          have e15 := and_15 q.x.dw
          obtain ⟨J, hJ⟩ : ∃ J, q.x.dw % 16 = J := ⟨_, rfl⟩
          rw [hJ] at e15
          clear hJ
          by_cases h9 : J = 9
          · subst h9
            by_cases hw : q.x.who = i
            · have c1' := c1
              rw [hw] at c1'
              clear c1
              go_wp2_with fail
              go_ret
              exact ⟨rfl, HO.out.k⟩
            · have hw1 : (q.x.who == i) = false := by simpa using hw
              go_wp2_with fail
              refine (do_sta HO.out HF.out (by omega) HP.out q.x HX.out.1 q.A q.c HZ.out).mono ?_
              rintro e w10 ⟨⟨va, rfl, -, -⟩, hoa, kp⟩
              have HO10 := Lib.hid hoa
              have HF10 : Hid (Fit P (40 + (k + 1)) (doP D q.x).2) := Lib.hid (HF.out.do_ HX.out.1.p HX.out.1.n.2 HX.out.1.v)
              have R8 := Lib.hid (kp.own HR8.out (fun g hg => by simp [hg]))
              have R9 := Lib.hid (kp.own HR9.out (fun g hg => by simp [hg]))
              have NX : Hid (∀ y, find (doP D q.x).2 i = some y → y.wr = BW → Fix (doP D q.x).2 i BW ky v qq) := Lib.hid (fun y h1 h2 => HFX.out.step HF.out.wf q.x h1 h2)
              clear hoa kp HO HR8 HR9 HF HFX HX HZ c0 c1 c2 c3 c4 c5 c6 c7 c8
              obtain ⟨E, hE⟩ : ∃ E, (doP D q.x).2 = E := ⟨_, rfl⟩
              rw [hE] at HO10 HF10 NX
              clear hE
              go_wp2_with fail
              refine (live_sta HO10.out HF10.out (by omega)).mono ?_
              rintro e w11 ⟨⟨vb, rfl, orb, -⟩, kb⟩
              obtain ⟨Bb, db, rfl, -, -, -⟩ := own_shape orb
              have HO11 := Lib.hid (HO10.out.keep0 kb)
              have R8b := Lib.hid (own_keep R8.out kb (by simp))
              have R9b := Lib.hid (own_keep R9.out kb (by simp))
              have CH := has_any w11 Bb (liveP E) db i (AtZ.of_own orb (by have := live_len (C := E); have := HF10.out.len; omega))
              obtain ⟨V, hV⟩ : ∃ V, decide (i ∈ liveP E) = V := ⟨_, rfl⟩
              rw [hV] at CH
              have HV := Lib.hid hV
              have CH := Lib.hid CH
              clear orb kb HO10 R8 R9 hV
              go_wp2_with fail
              refine CH.out.mono ?_
              rintro e w12 ⟨rfl, rfl⟩
              clear CH
              cases V with
              | false =>
                go_wp2_with fail
                go_ret
                exact ⟨rfl, HO11.out.k⟩
              | true =>
              go_wp2_with fail
              refine (writes_sta HO11.out HF10.out HP.out HI.out).mono ?_
              rintro e w12 ⟨⟨vc, rfl, orc, -⟩, kc⟩
              obtain ⟨Bc, dc, rfl, -, -, -⟩ := own_shape orc
              have HO12 := Lib.hid (HO11.out.keep0 kc)
              have R8c := Lib.hid (own_keep R8b.out kc (by simp))
              have R9c := Lib.hid (own_keep R9b.out kc (by simp))
              have CP := pairs_any w12 B9 Bc BW (wrP E i) d9 dc (AtP.of_own R9c.out HBL.out) (AtP.of_own orc (wrP_len HF10.out.wf HP.out i))
              obtain ⟨V, hV⟩ : ∃ V, decide (BW = wrP E i) = V := ⟨_, rfl⟩
              rw [hV] at CP
              have HV2 := Lib.hid hV
              have CP := Lib.hid CP
              clear orc kc HO11 R8b R9b hV
              go_wp2_with fail
              refine CP.out.mono ?_
              rintro e w13 ⟨rfl, kd⟩
              have HO13 := Lib.hid (HO12.out.keep0 kd)
              have R8d := Lib.hid (own_keep R8c.out kd (by simp))
              have R9d := Lib.hid (own_keep R9c.out kd (by simp))
              clear CP kd HO12 R8c R9c
              cases V with
              | false =>
                go_wp2_with fail
                go_ret
                exact ⟨rfl, HO13.out.k⟩
              | true =>
              have HN : Hid (Fix E i BW ky v qq) := Lib.hid (by
                have h1 := ((live_ok HF10.out.wf.tree).2 i).1 (of_decide_eq_true HV.out)
                obtain ⟨y, hy⟩ := has_find h1.2
                refine NX.out y hy ?_
                have h2 := of_decide_eq_true HV2.out
                unfold wrP at h2
                rw [hy] at h2
                exact h2.symm)
              go_wp2_with fail
              exact ⟨⟨k + 1, E, by omega, rfl, HO13.out, HF10.out, HN.out, R8d.out, R9d.out⟩, by simp only [intOf]; omega⟩
          · have h91 : (J == 9) = false := by simpa using h9
            by_cases h10 : J = 10
            · subst h10
              by_cases hw : q.x.who = i
              · have c1' := c1
                rw [hw] at c1'
                clear c1
                go_wp2_with fail
                go_ret
                exact ⟨rfl, HO.out.k⟩
              · have hw1 : (q.x.who == i) = false := by simpa using hw
                go_wp2_with fail
                refine (do_sta HO.out HF.out (by omega) HP.out q.x HX.out.1 q.A q.c HZ.out).mono ?_
                rintro e w10 ⟨⟨va, rfl, -, -⟩, hoa, kp⟩
                have HO10 := Lib.hid hoa
                have HF10 : Hid (Fit P (40 + (k + 1)) (doP D q.x).2) := Lib.hid (HF.out.do_ HX.out.1.p HX.out.1.n.2 HX.out.1.v)
                have R8 := Lib.hid (kp.own HR8.out (fun g hg => by simp [hg]))
                have R9 := Lib.hid (kp.own HR9.out (fun g hg => by simp [hg]))
                have NX : Hid (∀ y, find (doP D q.x).2 i = some y → y.wr = BW → Fix (doP D q.x).2 i BW ky v qq) := Lib.hid (fun y h1 h2 => HFX.out.step HF.out.wf q.x h1 h2)
                clear hoa kp HO HR8 HR9 HF HFX HX HZ c0 c1 c2 c3 c4 c5 c6 c7 c8
                obtain ⟨E, hE⟩ : ∃ E, (doP D q.x).2 = E := ⟨_, rfl⟩
                rw [hE] at HO10 HF10 NX
                clear hE
                go_wp2_with fail
                refine (live_sta HO10.out HF10.out (by omega)).mono ?_
                rintro e w11 ⟨⟨vb, rfl, orb, -⟩, kb⟩
                obtain ⟨Bb, db, rfl, -, -, -⟩ := own_shape orb
                have HO11 := Lib.hid (HO10.out.keep0 kb)
                have R8b := Lib.hid (own_keep R8.out kb (by simp))
                have R9b := Lib.hid (own_keep R9.out kb (by simp))
                have CH := has_any w11 Bb (liveP E) db i (AtZ.of_own orb (by have := live_len (C := E); have := HF10.out.len; omega))
                obtain ⟨V, hV⟩ : ∃ V, decide (i ∈ liveP E) = V := ⟨_, rfl⟩
                rw [hV] at CH
                have HV := Lib.hid hV
                have CH := Lib.hid CH
                clear orb kb HO10 R8 R9 hV
                go_wp2_with fail
                refine CH.out.mono ?_
                rintro e w12 ⟨rfl, rfl⟩
                clear CH
                cases V with
                | false =>
                  go_wp2_with fail
                  go_ret
                  exact ⟨rfl, HO11.out.k⟩
                | true =>
                go_wp2_with fail
                refine (writes_sta HO11.out HF10.out HP.out HI.out).mono ?_
                rintro e w12 ⟨⟨vc, rfl, orc, -⟩, kc⟩
                obtain ⟨Bc, dc, rfl, -, -, -⟩ := own_shape orc
                have HO12 := Lib.hid (HO11.out.keep0 kc)
                have R8c := Lib.hid (own_keep R8b.out kc (by simp))
                have R9c := Lib.hid (own_keep R9b.out kc (by simp))
                have CP := pairs_any w12 B9 Bc BW (wrP E i) d9 dc (AtP.of_own R9c.out HBL.out) (AtP.of_own orc (wrP_len HF10.out.wf HP.out i))
                obtain ⟨V, hV⟩ : ∃ V, decide (BW = wrP E i) = V := ⟨_, rfl⟩
                rw [hV] at CP
                have HV2 := Lib.hid hV
                have CP := Lib.hid CP
                clear orc kc HO11 R8b R9b hV
                go_wp2_with fail
                refine CP.out.mono ?_
                rintro e w13 ⟨rfl, kd⟩
                have HO13 := Lib.hid (HO12.out.keep0 kd)
                have R8d := Lib.hid (own_keep R8c.out kd (by simp))
                have R9d := Lib.hid (own_keep R9c.out kd (by simp))
                clear CP kd HO12 R8c R9c
                cases V with
                | false =>
                  go_wp2_with fail
                  go_ret
                  exact ⟨rfl, HO13.out.k⟩
                | true =>
                have HN : Hid (Fix E i BW ky v qq) := Lib.hid (by
                  have h1 := ((live_ok HF10.out.wf.tree).2 i).1 (of_decide_eq_true HV.out)
                  obtain ⟨y, hy⟩ := has_find h1.2
                  refine NX.out y hy ?_
                  have h2 := of_decide_eq_true HV2.out
                  unfold wrP at h2
                  rw [hy] at h2
                  exact h2.symm)
                go_wp2_with fail
                exact ⟨⟨k + 1, E, by omega, rfl, HO13.out, HF10.out, HN.out, R8d.out, R9d.out⟩, by simp only [intOf]; omega⟩
            · have h101 : (J == 10) = false := by simpa using h10
              go_wp2_with fail
              refine (do_sta HO.out HF.out (by omega) HP.out q.x HX.out.1 q.A q.c HZ.out).mono ?_
              rintro e w10 ⟨⟨va, rfl, -, -⟩, hoa, kp⟩
              have HO10 := Lib.hid hoa
              have HF10 : Hid (Fit P (40 + (k + 1)) (doP D q.x).2) := Lib.hid (HF.out.do_ HX.out.1.p HX.out.1.n.2 HX.out.1.v)
              have R8 := Lib.hid (kp.own HR8.out (fun g hg => by simp [hg]))
              have R9 := Lib.hid (kp.own HR9.out (fun g hg => by simp [hg]))
              have NX : Hid (∀ y, find (doP D q.x).2 i = some y → y.wr = BW → Fix (doP D q.x).2 i BW ky v qq) := Lib.hid (fun y h1 h2 => HFX.out.step HF.out.wf q.x h1 h2)
              clear hoa kp HO HR8 HR9 HF HFX HX HZ c0 c1 c2 c3 c4 c5 c6 c7 c8
              obtain ⟨E, hE⟩ : ∃ E, (doP D q.x).2 = E := ⟨_, rfl⟩
              rw [hE] at HO10 HF10 NX
              clear hE
              go_wp2_with fail
              refine (live_sta HO10.out HF10.out (by omega)).mono ?_
              rintro e w11 ⟨⟨vb, rfl, orb, -⟩, kb⟩
              obtain ⟨Bb, db, rfl, -, -, -⟩ := own_shape orb
              have HO11 := Lib.hid (HO10.out.keep0 kb)
              have R8b := Lib.hid (own_keep R8.out kb (by simp))
              have R9b := Lib.hid (own_keep R9.out kb (by simp))
              have CH := has_any w11 Bb (liveP E) db i (AtZ.of_own orb (by have := live_len (C := E); have := HF10.out.len; omega))
              obtain ⟨V, hV⟩ : ∃ V, decide (i ∈ liveP E) = V := ⟨_, rfl⟩
              rw [hV] at CH
              have HV := Lib.hid hV
              have CH := Lib.hid CH
              clear orb kb HO10 R8 R9 hV
              go_wp2_with fail
              refine CH.out.mono ?_
              rintro e w12 ⟨rfl, rfl⟩
              clear CH
              cases V with
              | false =>
                go_wp2_with fail
                go_ret
                exact ⟨rfl, HO11.out.k⟩
              | true =>
              go_wp2_with fail
              refine (writes_sta HO11.out HF10.out HP.out HI.out).mono ?_
              rintro e w12 ⟨⟨vc, rfl, orc, -⟩, kc⟩
              obtain ⟨Bc, dc, rfl, -, -, -⟩ := own_shape orc
              have HO12 := Lib.hid (HO11.out.keep0 kc)
              have R8c := Lib.hid (own_keep R8b.out kc (by simp))
              have R9c := Lib.hid (own_keep R9b.out kc (by simp))
              have CP := pairs_any w12 B9 Bc BW (wrP E i) d9 dc (AtP.of_own R9c.out HBL.out) (AtP.of_own orc (wrP_len HF10.out.wf HP.out i))
              obtain ⟨V, hV⟩ : ∃ V, decide (BW = wrP E i) = V := ⟨_, rfl⟩
              rw [hV] at CP
              have HV2 := Lib.hid hV
              have CP := Lib.hid CP
              clear orc kc HO11 R8b R9b hV
              go_wp2_with fail
              refine CP.out.mono ?_
              rintro e w13 ⟨rfl, kd⟩
              have HO13 := Lib.hid (HO12.out.keep0 kd)
              have R8d := Lib.hid (own_keep R8c.out kd (by simp))
              have R9d := Lib.hid (own_keep R9c.out kd (by simp))
              clear CP kd HO12 R8c R9c
              cases V with
              | false =>
                go_wp2_with fail
                go_ret
                exact ⟨rfl, HO13.out.k⟩
              | true =>
              have HN : Hid (Fix E i BW ky v qq) := Lib.hid (by
                have h1 := ((live_ok HF10.out.wf.tree).2 i).1 (of_decide_eq_true HV.out)
                obtain ⟨y, hy⟩ := has_find h1.2
                refine NX.out y hy ?_
                have h2 := of_decide_eq_true HV2.out
                unfold wrP at h2
                rw [hy] at h2
                exact h2.symm)
              go_wp2_with fail
              exact ⟨⟨k + 1, E, by omega, rfl, HO13.out, HF10.out, HN.out, R8d.out, R9d.out⟩, by simp only [intOf]; omega⟩
        · obtain rfl : k = M.length := by omega
          have i1 : ¬ ((M.length : Int) < (M.length : Int)) := by omega
          obtain ⟨hv, hq⟩ := HFX.out.end_ HF.out.wf.tree
          have CG := get_sta HO.out HF.out HP.out HI.out ky HKY.out
          rw [hv] at CG
          have CG := Lib.hid CG
          have HQ := Lib.hid hq
          clear hv hq
          go_wp2_with fail
          refine CG.out.mono ?_
          rintro e w10 ⟨rfl, ho10, kp⟩
          have HO10 := Lib.hid ho10
          have HF10 := Lib.hid (HF.out.ask i HKY.out)
          have R8 := Lib.hid (kp.own HR8.out (fun g hg => by simp [hg]))
          clear ho10 CG HO HR8 HR9 kp
          have CK := keys_sta HO10.out HF10.out HP.out HI.out ky HKY.out
          rw [HQ.out] at CK
          have CK := Lib.hid CK
          go_wp2_with fail
          refine CK.out.mono ?_
          rintro e w11 ⟨⟨v11, rfl, or11, -⟩, ho11, kp⟩
          obtain ⟨B11, d11, rfl, -, -, -⟩ := own_shape or11
          have HO11 := Lib.hid ho11
          have hql : qq.length ≤ 1000000 := HQL.out
          have CS := same_any w11 B11 B8 qq qq d11 d8 (AtS.of_own or11 hql) (AtS.of_own (kp.own R8.out (fun g hg => by simp [hg])) hql)
          rw [decide_eq_true (rfl : qq = qq)] at CS
          have CS := Lib.hid CS
          clear CK or11 ho11 kp HO10 R8 hql
          go_wp2_with fail
          refine CS.out.mono ?_
          rintro e w12 ⟨rfl, k12⟩
          go_wp2_with fail
          go_ret
          exact ⟨rfl, HO11.out.k.trans k12 (by simp)⟩
end Go.Proofs.Ytbllmpcpfmlemaa
