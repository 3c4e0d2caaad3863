/- The reference: removeLine. -/
import Derived.Test.YtcopjjokhjealaaGreatN9
namespace Go.Proofs.YtcopjjokhjealaaGreat
open Go.RowKit

theorem LsOK.drop {w : World} {f : Int → Option Ln} {LV : List LnV} (h : LsOK w f LV) {k : Nat} (hk : k < LV.length) {id : Int} (e : LV[k].id = id) : LsOK w (updG f id none) (LV.eraseIdx k) := by
  have hp := List.pairwise_iff_getElem.1 h.as1
  have hne : ∀ i (hi : i < LV.length), i ≠ k → LV[i].id ≠ id := fun i hi hik => by
    rw [← e]
    rcases Nat.lt_or_gt_of_ne hik with hlt | hlt
    · have := hp i k (by simpa using hi) (by simpa using hk) hlt; simp at this; omega
    · have := hp k i (by simpa using hk) (by simpa using hi) hlt; simp at this; omega
  refine ⟨h.as1.sublist ((List.eraseIdx_sublist _ _).map _), fun v hv => ?_, fun x hx => ?_⟩
  · obtain ⟨i, hi, hik, rfl⟩ := List.mem_eraseIdx_iff_getElem.1 hv
    obtain ⟨n, h1, h2⟩ := h.ls _ (List.getElem_mem hi)
    exact ⟨n, by rw [updG_ne _ _ (hne i hi hik)]; exact h1, h2⟩
  · by_cases ex : x = id
    · subst ex; rw [updG_same] at hx; cases hx
    · rw [updG_ne _ _ ex] at hx
      obtain ⟨v, hv, rfl⟩ := List.mem_map.1 (h.lc x hx)
      obtain ⟨i, hi, rfl⟩ := List.getElem_of_mem hv
      exact List.mem_map.2 ⟨_, List.mem_eraseIdx_iff_getElem.2 ⟨i, hi, fun h => ex (by subst h; exact e), rfl⟩, rfl⟩
def keepC (id : Int) (C : List Ct) : List Ct := C.filter (fun c => !decide (c.l = id))
theorem keepC_take {C : List Ct} {id : Int} {j : Nat} (hj : j < C.length) : keepC id (C.take (j + 1)) = keepC id (C.take j) ++ if C[j].l = id then [] else [C[j]] := by
  unfold keepC
  rw [List.take_succ_eq_append_getElem hj, List.filter_append]
  by_cases h : C[j].l = id <;> simp [h]
theorem CsOK.drop {g : Int × Int → Option Ct} {C : List Ct} (h : CsOK g C) (id : Int) : CsOK (fun k => if k.1 = id then none else g k) (keepC id C) := by
  refine ⟨h.as3.filter _, fun c hc => ?_, fun k c hc => ?_⟩
  · obtain ⟨h1, h2⟩ := List.mem_filter.1 hc
    have h2 : c.l ≠ id := by simpa using h2
    rw [if_neg h2]; exact h.cs c h1
  · by_cases e : k.1 = id
    · rw [if_pos e] at hc; cases hc
    · rw [if_neg e] at hc
      obtain ⟨h1, h2⟩ := h.cc k c hc
      exact ⟨List.mem_filter.2 ⟨h1, by rw [← h2] at e; simpa using e⟩, h2⟩
theorem many_pos {L : List Rn} {id : Int} (h : 0 < manyI L id) : ∃ k : Nat, ixF (fun x => decide (x.l = id)) L = k := by
  rcases ixF_cases (fun x => decide (x.l = id)) L with h1 | h1
  · exfalso
    have : manyI L id = 0 := by
      unfold manyI
      rw [List.length_eq_zero_iff, List.filter_eq_nil_iff]
      intro a ha
      have := ixF_neg h1 a ha
      simpa using this
    omega
  · exact h1
theorem many_zero {L : List Rn} {id : Int} (h : manyI L id = 0) : ixF (fun x => decide (x.l = id)) L < 0 := by
  rcases ixF_cases (fun x => decide (x.l = id)) L with h1 | ⟨k, h1⟩
  · exact h1
  · exfalso
    obtain ⟨hk, h2, -⟩ := ixF_spec h1
    unfold manyI at h
    rw [List.length_eq_zero_iff, List.filter_eq_nil_iff] at h
    exact h _ (List.getElem_mem hk) h2
/-- A line that is to go: its items go first. -/
structure Gol (X : Rn → Prop) (s s1 : Pl) (id : Int) (o1 : List Int) : Prop where
  c : Core X s1
  ch : ∀ s' o2, Rm (.cut id) s1 s' o2 → Rm (.cut id) s s' (o1 ++ o2)
  al : (s1.ln id).isSome = true
  ln : o1.length + s1.li.length = s.li.length
theorem Gol.step {X : Rn → Prop} {s s1 s2 : Pl} {id : Int} {o1 o : List Int} (h : Gol X s s1 id o1) {k : Nat} (hk : ixF (fun x => decide (x.l = id)) s1.li = k) (hr : Rm (.rem k) s1 s2 o) : Gol X s s2 id (o1 ++ o) := by
  refine ⟨h.c.rm hr (fun x hx => by cases hx), fun s' o2 hc => by rw [List.append_assoc]; exact h.ch s' (o ++ o2) (.step hk hr hc), ?_, by rw [List.length_append]; have := hr.len; have := h.ln; omega⟩
  obtain ⟨hk', h1, -⟩ := ixF_spec hk
  have h1 : s1.li[k].l = id := by simpa using h1
  obtain ⟨n, hn⟩ := Option.isSome_iff_exists.1 h.al
  have := hr.keepOwn h.c hk' (n := n) (by rw [h1]; exact hn)
  rw [h1] at this
  rw [this]; rfl
theorem rw_eraseL {L : List LnV} {i : Nat} : (rw lcs L).take (i * 4) ++ (rw lcs L).drop ((i + 1) * 4) = rw lcs (L.eraseIdx i) := by
  rw [rw_take lcs_len4, rw_drop lcs_len4, ← rw_append, List.eraseIdx_eq_take_drop_succ]
theorem QB.run {w : World} {G : List Nat} {q : Nat} {s : Pl} {nl nc B : Nat} (h : QB w G q s nl nc B) (hl : s.li.length ≤ 1000) : ∃ A c, w.cell? ⟨q, 1, none⟩ = some (.slice A s.li.length c) ∧ AtR w A s.li := by
  obtain ⟨LV, C, A1, A2, A3, c1, c2, c3, h, h1, h2, -⟩ := h
  exact ⟨A2, c2, h.b.cell 1, AtR.of_own h.o2 (by omega)⟩
set_option maxRecDepth 100000 in
set_option maxHeartbeats 12800000 in
theorem ctQ_of (n : Nat) (hn : n ≤ 1000) (hR : RmQ n) : CtQ n := by
  intro w G q s nl nc B X id h hB hnl hnc hl c hid hsome
  have hqw := h.lt
  have HQ0 := Lib.hid h
  have HR := Lib.hid hR
  have HI := Lib.hid info3
  have HI84 := Lib.hid info84
  have G0 : Hid (Gol X s s id []) := Lib.hid ⟨c, fun s' o2 h => h, hsome, by simp⟩
  clear h hR c hsome
  go_enter Tryz.func59, Tryz.ntmps59
  go_wp2_with fail
  go_loopw [5] (fun ov wz => ∃ (s1 : Pl) (o1 : List Int) (G1 : List Nat), Gol X s s1 id o1 ∧ wz.ownsRow 0 3 1 ov o1.length (zs o1) ∧ QB wz G1 q s1 nl nc B ∧ Keeps [q] w wz ∧ (∀ g ∈ G1, g ∈ G ∨ w.heap.size ≤ g) ∧ (∀ g ∈ fp ov, w.heap.size ≤ g)) (fun ov _ => s.li.length - lenV ov)
  case atStart => exact ⟨s, [], G, G0.out, World.ownsRow_nil _ _ _ _, HQ0.out, Keeps.refl _ _, fun g hg => .inl hg, by simp⟩
  case round =>
    obtain ⟨s1, o1, G1, hgo, ho, hq, kp, hG, hf⟩ := hrel
    have HGO := Lib.hid hgo
    have HO := Lib.hid ho
    have HQ := Lib.hid hq
    have KZ := Lib.hid kp
    have HGG := Lib.hid hG
    have HF := Lib.hid hf
    have hln := hgo.ln
    obtain ⟨Ao, co, rfl, -, -, -⟩ := own_shape ho
    obtain ⟨A2, c2, f1, hat⟩ := hq.run (by omega)
    have HAT := Lib.hid hat
    have HM := Lib.hid (manyQ_any wr q A2 s1.li c2 id f1 hat)
    obtain ⟨M, hM⟩ : ∃ M, manyI s1.li id = M := ⟨_, rfl⟩
    rw [hM] at HM
    have HMM := Lib.hid hM
    clear hgo ho hq kp hG hf hat hM
    by_cases hpos : 0 < M
    · obtain ⟨k, hk⟩ := many_pos (L := s1.li) (id := id) (by rw [HMM.out]; exact hpos)
      obtain ⟨hkl, hk1, hk2⟩ := ixF_spec hk
      have HK := Lib.hid hk
      have HK1 : Hid (s1.li[k].l = id) := Lib.hid (by simpa using hk1)
      have HK2 : Hid (∀ j (hj : j < s1.li.length), j < k → ¬ s1.li[j].l = id) := Lib.hid (fun j hj hjk => by simpa using hk2 j hj hjk)
      have mp : (0 : Int) < (M : Int) := by omega
      clear hk hk1 hk2
      go_wp2_with fail
      refine HM.out.mono ?_
      rintro e w1 ⟨rfl, rfl⟩
      go_wp2_with fail
      go_loop [6] (fun iv => ∃ i : Nat, i ≤ k ∧ iv = .int .i64 i) (fun iv => k - (intOf iv).toNat)
      case atStart => exact ⟨0, by omega, rfl⟩
      case round =>
        obtain ⟨i, hi, rfl⟩ := hrel
        obtain ⟨bl, off, hAA, hbl, hc⟩ := HAT.out.at_ (by omega)
        subst hAA
        obtain ⟨d0, -⟩ := hc i (by omega)
        have i0 : (0 : Int) ≤ (i : Int) := by omega
        have i1 : (i : Int) < (s1.li.length : Int) := by omega
        clear hc
        by_cases hik : i < k
        · have hne := HK2.out i (by omega) hik
          obtain ⟨y, hy⟩ : ∃ y, s1.li[i].l = y := ⟨_, rfl⟩
          rw [hy] at d0 hne
          clear hy
          go_wp2_with fail
          go_round
          case rel => exact ⟨i + 1, by omega, by go_num⟩
          case measure => simp [intOf]; omega
        · obtain rfl : i = k := by omega
          have RT := Lib.hid (HR.out w1 G1 q s1 nl nc B X i HQ.out (Nat.le_trans hB KZ.out.size) hnl hnc (by omega) HGO.out.c hkl)
          rw [HK1.out] at d0
          go_wp2_with fail
          refine RT.out.mono ?_
          rintro e w5 ⟨v5, o5, s5, rfl, hr5, ho5, ⟨G5, hq5, kk5, hg5⟩, hf5⟩
          have HR5 := Lib.hid hr5
          have HO5 := Lib.hid ho5
          have hz5 := KZ.out.size
          have hqv : ∀ g ∈ fp (.slice Ao o1.length co), g ∉ [q] := fun g hg hm => by
            rw [List.mem_singleton.1 hm] at hg
            obtain ⟨_, _, _, _, _, _, _, _, hh, _⟩ := HQ.out
            exact hh.noInt q hh.memq (own_int HO.out q hg)
          have OO := Lib.hid (own_keep HO.out kk5 hqv)
          have hlen5 := hr5.len
          have hlt5 := hr5.lt
          obtain ⟨A5, c5, rfl, -, -, -⟩ := own_shape ho5
          have HQ5 := Lib.hid hq5
          have KK5 := Lib.hid kk5
          have HG5 := Lib.hid hg5
          have HF5 := Lib.hid hf5
          clear hr5 ho5 hq5 kk5 hg5 hf5 RT HO hqv d0
          go_wp2_with (at_builtin; refine wpList_app _ rfl (.tmp 26) (.tmp 29) _ rfl 3 (.int .i64 0) 1 8 Tryz.underlying22 HI.out rfl (by omega) (.slice Ao o1.length co) _ _ rfl OO.out _ _ _ _ (zs o5) rfl (reads_own HO5.out) (zs_one _) (by unfold maxLen; omega) (by omega) ?_)
          intro v6 w6 o6 k6 f6
          have OX : Hid (w6.ownsRow 0 3 1 v6 (o1 ++ o5).length (zs (o1 ++ o5))) := Lib.hid (by rw [List.length_append, zs_app]; exact o6)
          have QX : Hid (QB w6 G5 q s5 nl nc B) := Lib.hid (HQ5.out.keepI OO.out (fun g hg => Nat.le_trans hB (HF.out g hg)) k6)
          have KX : Hid (Keeps [q] w w6) := Lib.hid ((KZ.out.trans KK5.out (fun g hg => .inl hg)).trans k6 (fun g hg => .inr (HF.out g hg)))
          have GX : Hid (∀ g ∈ G5, g ∈ G ∨ w.heap.size ≤ g) := Lib.hid (fun g hg => (HG5.out g hg).elim (HGG.out g) (fun h => .inr (Nat.le_trans hz5 h)))
          have hz6 := KK5.out.size
          have FX : Hid (∀ g ∈ fp v6, w.heap.size ≤ g) := Lib.hid (fun g hg => (f6 g hg).elim (HF.out g) (fun h => by omega))
          obtain ⟨A6, c6, rfl, -, -, -⟩ := own_shape OX.out
          have hlx : (o1 ++ o5).length = o1.length + o5.length := List.length_append
          clear o6 k6 f6 OO HQ5
          go_wp2_with fail
          go_roundw
          case rel => exact ⟨s5, o1 ++ o5, G5, HGO.out.step HK.out HR5.out, OX.out, QX.out, KX.out, GX.out, FX.out⟩
          case measure => simp only [lenV]; omega
    · have hM0 : M = 0 := by omega
      subst hM0
      have HIX := Lib.hid (many_zero HMM.out)
      obtain ⟨LV, C, A1, A2', A3, c1, c2', c3, hqa, hb1, hb2, hvb⟩ := HQ.out
      have f0 : wr.cell? ⟨q, 0, none⟩ = some (.slice A1 LV.length c1) := hqa.b.cell 0
      have LQ := Lib.hid (lineQ_any wr q A1 LV c1 id f0 (AtV.of_own hqa.o1 (by omega)))
      obtain ⟨nn, hnn⟩ := Option.isSome_iff_exists.1 HGO.out.al
      rcases hqa.line id with ⟨-, e2⟩ | ⟨k, hk, n', e1, e2, -, -⟩
      · rw [hnn] at e2; cases e2
      rw [e1] at LQ
      obtain ⟨_, _, hv, hcl, -, hA⟩ := own_shape hqa.o1
      obtain ⟨rfl, -, rfl⟩ : A1 = _ ∧ LV.length = _ ∧ c1 = _ := by injection hv with h1 h2 h3; exact ⟨h1, rfl, h3⟩
      obtain ⟨g1, rfl⟩ := hA (by omega)
      have HQA : Hid (∀ W, Keeps [] wr W → QAt W G1 q s1 LV C (some ⟨g1, 0, none⟩) A2' A3 c1 c2' c3) := Lib.hid (fun W k => hqa.keep0 k)
      have HVB := Lib.hid hvb
      have HID := Lib.hid e2
      have hqr : q < wr.heap.size := hqa.b.lt
      have HRD : Hid (∀ W, Keeps [] wr W → Reads W W.heap.size 4 (some ⟨g1, 0, none⟩) LV.length (rw lcs LV)) := Lib.hid (fun W kW => reads_own (hqa.keep0 kW).o1)
      have j0 : (0 : Int) ≤ (k : Int) := by omega
      have j1 : (k : Int) < (LV.length : Int) := by omega
      have mp : ¬ (0 : Int) < ((0 : Nat) : Int) := by omega
      clear hqa hvb hnn e1 e2 hv hA
      go_wp2_with fail
      refine HM.out.mono ?_
      rintro e w1 ⟨rfl, rfl⟩
      go_wp2_with fail
      refine LQ.out.mono ?_
      rintro e w1 ⟨rfl, rfl⟩
      go_upto_region 8 with fail
      refine rml8_any w1 q LV.length k (k + 1) c1 (LV.length - (k + 1)) (c1 - (k + 1)) (LV.length - 1) (some ⟨g1, 0, none⟩) _ ((rw lcs LV).take (k * 4)) ((rw lcs LV).drop ((k + 1) * 4)) _ (by omega) (by omega) (by omega) (by omega)
        (fun W kW => (HQA.out W kW).b.cell 0) (fun W kW => (HQA.out W kW).b.frozen 0) (run_take62 _ _ _ k (by omega) (by omega)) (run_drop62 _ _ _ (k + 1) (by omega)) (fun W kW => (HRD.out W kW).take (by omega)) (fun W kW => (HRD.out W kW).cut (by omega) (by omega))
        (fun u hu => rw_one lcs_one _ u (List.mem_of_mem_take hu)) (fun u hu => rw_one lcs_one _ u (List.mem_of_mem_drop hu)) (by rw [IntKind.wrap_i64]; omega) _ _ _ _ _ _ _ _ _ _ _ _ _ _ _ _ _ _ _ _ _ _ _ _ _ _ _ _ _ _ _ _ _ _ _ _ _ _ _ _ _ _ _ _ _ _ _ _ _ _ _ _ _ _ _ _ _ _ _ _ _ _ _ _ _ _ _ _ _ _ _ _ _ _ _ _ _ _ _ _ _ _ _ _ _ ?_
      intro v34 v35 v36 v37 v38 v39 v40 v41 v42 v43 v44 v45 v46 v47 v48 v49 v50 v51 v52 v3 W4 ho4 hk4 hf4
      have elen : (LV.eraseIdx k).length = LV.length - 1 := by rw [List.length_eraseIdx]; simp [hk]
      have HO4 : Hid (W4.ownsRow 0 56 4 v3 (LV.eraseIdx k).length (rw lcs (LV.eraseIdx k))) := Lib.hid (by
        rw [elen, ← rw_eraseL]
        have := ho4
        rw [List.nil_append] at this
        exact this)
      have hf5 := hf4
      obtain ⟨A4, c4, rfl, -, -, -⟩ := own_shape HO4.out
      obtain ⟨G2, hG2, hs2⟩ := (HQA.out W4 hk4).putL (s' := ⟨updG s1.ln id none, s1.li, s1.ct⟩) HO4.out (w := w1) hf5 hqr rfl rfl ((HQA.out W4 hk4).lsOK.drop hk HID.out)
      have K1 : Hid (Keeps [q] w1 (W4.setCell ⟨q, 0, none⟩ (.slice A4 (LV.eraseIdx k).length c4))) := Lib.hid ((hk4.mono (by simp)).setCell (.inl (by simp)) _)
      obtain ⟨W1, hW1⟩ : ∃ W, W4.setCell ⟨q, 0, none⟩ (.slice A4 (LV.eraseIdx k).length c4) = W := ⟨_, rfl⟩
      rw [hW1] at hG2 K1 ⊢
      have HG2 := Lib.hid hG2
      have HS2 := Lib.hid hs2
      have KW1 : Hid (Keeps [q] w W1) := Lib.hid (KZ.out.trans K1.out (fun g hg => .inl hg))
      have hqv : ∀ g ∈ fp (.slice Ao o1.length co), g ∉ [q] := fun g hg hm => by
        rw [List.mem_singleton.1 hm] at hg
        have hh := HQA.out w1 (Keeps.refl _ _)
        exact hh.noInt q hh.memq (own_int HO.out q hg)
      have HO1 := Lib.hid (own_keep HO.out K1.out hqv)
      have hz1 := KW1.out.size
      clear hW1 hG2 hs2 ho4 hk4 hf4 hf5 HO4 f0 f1 HRD HQA HO hqv
      have HAC : Hid (∀ W, Keeps [] W1 W → AtC W A3 C) := Lib.hid (fun W kW => AtC.of_own (HG2.out.keep0 kW).o3 (by omega))
      have HF2 : Hid (∀ W, Keeps [] W1 W → W.cell? ⟨q, 2, none⟩ = some (.slice A3 C.length c3)) := Lib.hid (fun W kW => (HG2.out.keep0 kW).b.cell 2)
      go_wp2_with fail
      go_loopw [8, 9] (fun cv jv wz => ∃ j : Nat, j ≤ C.length ∧ jv = .int .i64 j ∧ wz.ownsRow 0 84 7 cv (keepC id (C.take j)).length (rw ccs (keepC id (C.take j))) ∧ Keeps [] W1 wz ∧ (∀ g ∈ fp cv, W1.heap.size ≤ g)) (fun _ jv _ => C.length - (intOf jv).toNat)
      case atStart => exact ⟨0, by omega, rfl, World.ownsRow_nil _ _ _ _, Keeps.refl _ _, by simp⟩
      case round =>
        obtain ⟨j, hj, rfl, oi, kp, fi⟩ := hrel
        have OI := Lib.hid oi
        have KP := Lib.hid kp
        have FI := Lib.hid fi
        have f2 := HF2.out wr kp
        obtain ⟨Ai, ci, rfl, -, -, -⟩ := own_shape oi
        clear oi kp fi
        by_cases hlt : j < C.length
        · obtain ⟨bl, off, hAA, hbl, hc⟩ := (HAC.out wr KP.out).at_ (by omega)
          subst hAA
          obtain ⟨d0, d1, d2, d3, d4, d5, d6⟩ := hc j hlt
          have i0 : (0 : Int) ≤ (j : Int) := by omega
          have i1 : (j : Int) < (C.length : Int) := by omega
          have hit := keepC_take (id := id) hlt
          obtain ⟨x, hx⟩ : ∃ x, C[j] = x := ⟨_, rfl⟩
          rw [hx] at d0 d1 d2 d3 d4 d5 d6 hit
          have HIT := Lib.hid hit
          have hle : (keepC id (C.take j)).length ≤ j := by unfold keepC; exact Nat.le_trans (List.length_filter_le _ _) (by rw [List.length_take]; omega)
          clear hc hx hit
          by_cases e : x.l = id
          · go_wp2_with fail
            go_roundw
            case rel => exact ⟨j + 1, by omega, by go_num, by rw [HIT.out, if_pos e, List.append_nil]; exact OI.out, KP.out, FI.out⟩
            case measure => simp [intOf]; omega
          · have KA : Hid (Keeps [] wr (wr.alloc (.cells #[.int .i64 x.l, .int .i64 x.i, .int .i64 x.runs, .int .i64 x.com, .int .i64 x.con, .int .i64 x.drp, .int .i64 x.str] 84))) := Lib.hid ((Keeps.refl [] wr).alloc _)
            have OI2 : Hid ((wr.alloc (.cells #[.int .i64 x.l, .int .i64 x.i, .int .i64 x.runs, .int .i64 x.com, .int .i64 x.con, .int .i64 x.drp, .int .i64 x.str] 84)).ownsRow 0 84 7 (.slice Ai (keepC id (C.take j)).length ci) (keepC id (C.take j)).length (rw ccs (keepC id (C.take j)))) := Lib.hid (own_keep OI.out KA.out (by simp))
            have HRD : Hid (Reads (wr.alloc (.cells #[.int .i64 x.l, .int .i64 x.i, .int .i64 x.runs, .int .i64 x.com, .int .i64 x.con, .int .i64 x.drp, .int .i64 x.str] 84)) (wr.heap.size + 1) 7 (some ⟨wr.heap.size, 0, none⟩) 1 (ccs x)) := Lib.hid (reads_cells wr #[.int .i64 x.l, .int .i64 x.i, .int .i64 x.runs, .int .i64 x.com, .int .i64 x.con, .int .i64 x.drp, .int .i64 x.str] 1 7 84 rfl)
            go_wp2_with (at_builtin; refine wpList_app _ rfl (.tmp 72) (.tmp 80) _ rfl 84 (.agg #[.int .i64 0, .int .i64 0, .int .i64 0, .int .i64 0, .int .i64 0, .int .i64 0, .int .i64 0]) 7 56 Tryz.underlying63 HI84.out rfl (by omega) (.slice Ai (keepC id (C.take j)).length ci) _ _ rfl OI2.out _ _ _ _ (ccs x) rfl HRD.out (ccs_one x) (by unfold maxLen; omega) (by omega) ?_)
            intro v6 w6 o6 k6 f6
            have KX : Hid (Keeps [] W1 w6) := Lib.hid ((KP.out.trans KA.out (by simp)).trans k6 (fun g hg => .inr (FI.out g hg)))
            have F6 : Hid (∀ g ∈ fp v6, W1.heap.size ≤ g) := Lib.hid (fun g hg => (f6 g hg).elim (fun h => FI.out g h) (fun h => by have h1 := KP.out.size; have h2 : wr.heap.size + 1 ≤ g := (by simpa using h); omega))
            have O6 : Hid (w6.ownsRow 0 84 7 v6 (keepC id (C.take (j + 1))).length (rw ccs (keepC id (C.take (j + 1))))) := Lib.hid (by
              rw [HIT.out, if_neg e, List.length_append, rw_append, rw_cons, rw_nil, List.append_nil]; exact o6)
            clear o6 k6 f6 OI2 KA
            go_wp2_with fail
            go_roundw
            case rel => exact ⟨j + 1, by omega, by go_num, O6.out, KX.out, F6.out⟩
            case measure => simp [intOf]; omega
        · obtain rfl : j = C.length := by omega
          rw [List.take_length] at OI FI ⊢
          have fz := (HG2.out.keep0 KP.out).b.frozen 2
          have kf : (keepC id C).length ≤ C.length := by unfold keepC; exact List.length_filter_le _ _
          clear HAC
          go_wp2_with fail
          go_ret
          obtain ⟨G3, hG3, hs3⟩ := (HG2.out.keep0 KP.out).putC (s' := dropL s1 id) OI.out (w := W1) FI.out (by omega) rfl rfl ((HG2.out.keep0 KP.out).csOK.drop id)
          refine ⟨_, o1, dropL s1 id, rfl, ?_, ?_, ⟨G3, ⟨_, _, _, _, _, _, _, _, hG3, by omega, by omega, fun v hv => HVB.out v ((List.eraseIdx_sublist _ _).subset hv)⟩, ?_, ?_⟩, HF.out⟩
          · have := HGO.out.ch (dropL s1 id) [] (.done HIX.out)
            rw [List.append_nil] at this
            exact this
          · refine own_keep (own_keep HO1.out KP.out (by simp)) ((Keeps.refl [q] wr).setCell (.inl (by simp)) _) (fun g hg hm => ?_)
            rw [List.mem_singleton.1 hm] at hg
            exact HG2.out.noInt q HG2.out.memq (own_int HO1.out q hg)
          · exact (KW1.out.trans KP.out (by simp)).setCell (.inl (by simp)) _
          · intro g hg
            rcases hs3 g hg with h | h
            · rcases HS2.out g h with h | h
              · exact HGG.out g h
              · exact .inr (Nat.le_trans KZ.out.size h)
            · exact .inr (Nat.le_trans hz1 h)
theorem rm_ct : ∀ n, n ≤ 1000 → RmQ n ∧ CtQ n := by
  intro n
  induction n using Nat.strongRecOn with
  | ind n ih =>
    intro hn
    have h1 := rmQ_of n hn (fun m hm => (ih m hm (by omega)).2)
    exact ⟨h1, ctQ_of n hn h1⟩
end Go.Proofs.YtcopjjokhjealaaGreat
