/- The reference: Finished, Ahead, Oldest, Victim. -/
import Derived.Test.YtcopjjokhjealaaGreatN5
namespace Go.Proofs.YtcopjjokhjealaaGreat
open Go.RowKit

theorem QAt.line {w : World} {G : List Nat} {q : Nat} {s : Pl} {LV : List LnV} {C : List Ct} {A1 A2 A3 : Option Addr} {c1 c2 c3 : Nat} (h : QAt w G q s LV C A1 A2 A3 c1 c2 c3) (x : Int) :
    (lnI LV x = -1 ∧ s.ln x = none) ∨ ∃ k, ∃ hk : k < LV.length, ∃ n, lnI LV x = k ∧ LV[k].id = x ∧ s.ln x = some n ∧ LnAt w x LV[k] n := by
  rcases lnI_cases LV x with ⟨h1, h2⟩ | ⟨k, hk, h1, h2⟩
  · refine .inl ⟨h1, ?_⟩
    cases hs : s.ln x with
    | none => rfl
    | some n => exact absurd (h.lc x (by rw [hs]; rfl)) h2
  · obtain ⟨n, h3, h4⟩ := h.ls _ (List.getElem_mem hk)
    rw [h2] at h3 h4
    exact .inr ⟨k, hk, n, h1, h2, h3, h4⟩
set_option maxRecDepth 100000 in
set_option maxHeartbeats 3200000 in
theorem finishedQ_any (w : World) (G : List Nat) (q : Nat) (s : Pl) (nl nc : Nat) (h : QR w G q s nl nc) (hl : s.li.length ≤ 1000) (l i : Int) :
    Calls Tryz.prog 28 #[.pointer (some ⟨q, 0, none⟩), .int .i64 l, .int .i64 i] w fun e w' => e = .returned (.int .i64 (finE s l i)) ∧ QN w w' G q (finS s l i) nl nc := by
  have HQ0 := Lib.hid h
  obtain ⟨LV, C, A1, A2, A3, c1, c2, c3, h, hb1, hb2⟩ := h
  have hqw : q < w.heap.size := h.b.lt
  have f1 : w.cell? ⟨q, 1, none⟩ = some (.slice A2 s.li.length c2) := h.b.cell 1
  have fz : w.frozen? ⟨q, 1, none⟩ = false := h.b.frozen 1
  have HC := Lib.hid (runQ_any w q A2 s.li c2 l i f1 (AtR.of_own h.o2 (by omega)))
  have HQ : Hid (∀ W, Keeps [] w W → QAt W G q s LV C A1 A2 A3 c1 c2 c3) := Lib.hid (fun W k => h.keep0 k)
  have HI := Lib.hid info69
  clear h
  by_cases hneg : fndI s.li l i < 0
  · have e1 : Hid (finE s l i = 4 ∧ finS s l i = s) := Lib.hid ⟨by unfold finE; rw [if_pos hneg], by unfold finS; rw [if_pos hneg]⟩
    obtain ⟨I, hI⟩ : ∃ I, fndI s.li l i = I := ⟨_, rfl⟩
    rw [hI] at hneg HC
    clear hI f1
    go_enter Tryz.func28, Tryz.ntmps28
    go_wp2_with fail
    refine HC.out.mono ?_
    rintro e w1 ⟨rfl, rfl⟩
    go_wp2_with fail
    go_ret
    rw [e1.out.1, e1.out.2]
    exact ⟨rfl, QN.same HQ0.out (Keeps.refl _ _)⟩
  · obtain ⟨k, hk, hkI⟩ := ixF_lt hneg
    have hkI : fndI s.li l i = k := hkI
    have e1 : Hid (finE s l i = 0 ∧ finS s l i = ⟨s.ln, doneR s.li k, s.ct⟩) := Lib.hid ⟨by unfold finE; rw [if_neg hneg], by unfold finS; rw [if_neg hneg, hkI]; rfl⟩
    rw [hkI] at HC
    clear hneg hkI
    have KA : Hid (Keeps [] w (w.alloc (.cells #[] 69))) := Lib.hid ((Keeps.refl [] w).alloc _)
    have HE : Hid ((w.alloc (.cells #[] 69)).ownsRow 0 69 4 (.slice (some ⟨w.heap.size, 0, none⟩) 0 0) 0 []) := Lib.hid (own_of_blk (Blk.new w 69 #[]) (by omega) (by omega) rfl rfl)
    go_enter Tryz.func28, Tryz.ntmps28
    go_wp2_with fail
    refine HC.out.mono ?_
    rintro e w1 ⟨rfl, rfl⟩
    go_wp2_with (at_builtin; refine wpList_app _ rfl (.tmp 15) (.tmp 19) _ rfl 69 (.agg #[.int .i64 0, .int .i64 0, .int .i64 0, .bool false]) 4 32 Tryz.underlying58 HI.out rfl (by omega) (.slice (some ⟨w1.heap.size, 0, none⟩) 0 0) 0 [] rfl HE.out _ A2 _ _ (rw rcs s.li) rfl (reads_own (HQ.out _ KA.out).o2) (rw_one rcs_one _) (by unfold maxLen; omega) (by omega) ?_)
    intro vl w3 ol kl fl
    have OL := Lib.hid ol
    have K3 : Hid (Keeps [] w1 w3) := Lib.hid (KA.out.trans kl (fun g hg => .inr (by simp at hg; omega)))
    have FL : Hid (∀ g ∈ fp vl, w1.heap.size ≤ g) := Lib.hid (fun g hg => (fl g hg).elim (fun h => by omega) (fun h => by omega))
    obtain ⟨Al, cl, rfl, hcl, -, hAl⟩ := own_shape OL.out
    obtain ⟨gl, rfl⟩ := hAl (by omega)
    have hf := own_free OL.out (k * 4 + 3)
    have hcell := own_cell (j := k * 4 + 3) (u := .bool s.li[k].d) OL.out (by rw [rw_at rcs_len hk (by omega)]; rfl)
    have i0 : (0 : Int) ≤ (k : Int) := by omega
    have i1 : (k : Int) < (s.li.length : Int) := by omega
    have hqg : q ≠ gl := fun e => by have := FL.out gl (by simp); omega
    have OS := Lib.hid (own_set OL.out (k * 4 + 3) (.bool true))
    have f3 : w3.cell? ⟨q, 1, none⟩ = some (.slice A2 s.li.length c2) := (K3.out.cell (p := ⟨q, 1, none⟩) hqw (by simp)).trans f1
    have fz3 : w3.frozen? ⟨q, 1, none⟩ = false := (K3.out.frozen (p := ⟨q, 1, none⟩) hqw (by simp)).trans fz
    clear ol kl fl KA HE f1 fz
    go_wp2_with fail
    go_ret
    rw [e1.out.1, e1.out.2]
    have KS : Keeps [] w1 (w3.setCell ⟨gl, k * 4 + 3, none⟩ (.bool true)) := K3.out.setCell (.inr (FL.out gl (by simp))) _
    have OS2 : (w3.setCell ⟨gl, k * 4 + 3, none⟩ (.bool true)).ownsRow 0 69 4 (.slice (some ⟨gl, 0, none⟩) (doneR s.li k).length cl) (doneR s.li k).length (rw rcs (doneR s.li k)) := by
      rw [doneR_len, ← rw_done hk]; exact OS.out
    obtain ⟨G', hG', hs⟩ := (HQ.out _ KS).putR (s' := ⟨s.ln, doneR s.li k, s.ct⟩) OS2 (w := w1) (fun g hg => FL.out g (by simpa using hg)) hqw rfl rfl
    rw [show (⟨s.ln, doneR s.li k, s.ct⟩ : Pl).li.length = s.li.length from doneR_len _ _] at hG'
    exact ⟨rfl, G', ⟨_, _, _, _, _, _, _, _, hG', hb1, hb2⟩, (KS.mono (by simp)).setCell (.inl (by simp)) _, hs⟩
set_option maxRecDepth 100000 in
set_option maxHeartbeats 3200000 in
theorem aheadQ_any (w : World) (G : List Nat) (q : Nat) (s : Pl) (nl nc : Nat) (h : QR w G q s nl nc) (hnl : nl ≤ 1000) (hl : s.li.length ≤ 1000) (hi : ∀ x n, s.ln x = some n → n.it.length ≤ 1000) (x : Int) :
    Calls Tryz.prog 34 #[.pointer (some ⟨q, 0, none⟩), .int .i64 x] w fun e w' => e = .returned (.tuple #[.int .i64 ((aheadV s x).getD 0), .bool (aheadV s x).isSome]) ∧ w' = w := by
  obtain ⟨LV, C, A1, A2, A3, c1, c2, c3, h, hb1, hb2⟩ := h
  have f0 : w.cell? ⟨q, 0, none⟩ = some (.slice A1 LV.length c1) := h.b.cell 0
  have f1 : w.cell? ⟨q, 1, none⟩ = some (.slice A2 s.li.length c2) := h.b.cell 1
  have AL := AtV.of_own h.o1 (by omega)
  have AR := AtR.of_own h.o2 (by omega)
  have HL := Lib.hid (lineQ_any w q A1 LV c1 x f0 AL)
  have HM := Lib.hid (manyQ_any w q A2 s.li c2 x f1 AR)
  have HR := Lib.hid (fun y => runQ_any w q A2 s.li c2 x y f1 AR)
  obtain ⟨V, hV⟩ : ∃ V, aheadV s x = V := ⟨_, rfl⟩
  rw [hV]
  rcases h.line x with ⟨e1, e2⟩ | ⟨k, hk, n, e1, e2, e3, e4, e5, e6, e7, e8⟩
  · rw [e1] at HL
    have eV : V = none := by rw [← hV]; unfold aheadV; rw [e2]
    subst eV
    clear hV h hi AL AR HM HR f1
    go_enter Tryz.func34, Tryz.ntmps34
    go_wp2_with fail
    refine HL.out.mono ?_
    rintro e w1 ⟨rfl, rfl⟩
    go_wp2_with fail
    go_ret2
    exact ⟨rfl, rfl⟩
  · rw [e1] at HL
    have hnl2 := hi x n e3
    have HZ := Lib.hid (AtZ.of_own e8 (by omega))
    have hV2 : V = if 4 ≤ manyI s.li x then none else n.it.find? (fun i => decide (fndI s.li x i < 0)) := by rw [← hV]; unfold aheadV; rw [e3]
    have HV := Lib.hid hV2
    obtain ⟨bl, off, hAA, hbl, hc⟩ := AL.at_ (by omega)
    subst hAA
    obtain ⟨-, -, -, d3⟩ := hc k hk
    rw [e7] at d3
    obtain ⟨Ai, hAi⟩ : ∃ Ai, (LV[k].b.map fun g => (⟨g, 0, none⟩ : Addr)) = Ai := ⟨_, rfl⟩
    rw [hAi] at d3 HZ
    obtain ⟨ci, hci⟩ : ∃ c, LV[k].c = c := ⟨_, rfl⟩
    rw [hci] at d3
    have i0 : (0 : Int) ≤ (k : Int) := by omega
    have i1 : (k : Int) < (LV.length : Int) := by omega
    have i2 : max (k : Int) 0 = k := by omega
    obtain ⟨M, hM⟩ : ∃ M, manyI s.li x = M := ⟨_, rfl⟩
    rw [hM] at HV HM
    clear hV hV2 h hi e1 e2 e3 e4 e5 e6 e7 e8 hAi hci hc AL AR hM f1
    by_cases hM4 : 4 ≤ M
    · have eV : V = none := by rw [HV.out, if_pos hM4]
      subst eV
      have i4 : (4 : Int) ≤ (M : Int) := by omega
      clear HV HZ HR
      go_enter Tryz.func34, Tryz.ntmps34
      go_wp2_with fail
      refine HL.out.mono ?_
      rintro e w1 ⟨rfl, rfl⟩
      go_wp2_with fail
      refine HM.out.mono ?_
      rintro e w1 ⟨rfl, rfl⟩
      go_wp2_with fail
      go_ret2
      exact ⟨rfl, rfl⟩
    have HV2 : Hid (V = n.it.find? (fun i => decide (fndI s.li x i < 0))) := Lib.hid (by rw [HV.out, if_neg hM4])
    have i4 : ¬ (4 : Int) ≤ (M : Int) := by omega
    clear HV
    go_enter Tryz.func34, Tryz.ntmps34
    go_wp2_with fail
    refine HL.out.mono ?_
    rintro e w1 ⟨rfl, rfl⟩
    go_wp2_with fail
    refine HM.out.mono ?_
    rintro e w1 ⟨rfl, rfl⟩
    go_wp2_with fail
    go_loop [8] (fun iv => ∃ j : Nat, j ≤ n.it.length ∧ iv = .int .i64 j ∧ (∀ y (hy : y < n.it.length), y < j → ¬ fndI s.li x n.it[y] < 0)) (fun iv => n.it.length - (intOf iv).toNat)
    case atStart => exact ⟨0, by omega, rfl, fun j hj h => absurd h (by omega)⟩
    case round =>
      obtain ⟨j, hj, rfl, hno⟩ := hrel
      have HNO := Lib.hid hno
      clear hno
      by_cases hlt : j < n.it.length
      · obtain ⟨b2, o2, hAA, hb2, hc⟩ := HZ.out.at_ (by omega)
        subst hAA
        have c0 := hc j hlt
        have j0 : (0 : Int) ≤ (j : Int) := by omega
        have j1 : (j : Int) < (n.it.length : Int) := by omega
        obtain ⟨y, hy⟩ : ∃ y, n.it[j] = y := ⟨_, rfl⟩
        rw [hy] at c0
        have HY := Lib.hid hy
        clear hc hy
        go_wp2_with fail
        refine (HR.out y).mono ?_
        rintro e w2 ⟨rfl, rfl⟩
        obtain ⟨I, hI⟩ : ∃ I, fndI s.li x y = I := ⟨_, rfl⟩
        rw [hI]
        have HII := Lib.hid hI
        clear hI
        by_cases hneg : I < 0
        · have eV : V = some y := by
            rw [HV2.out]
            rw [List.find?_eq_some_iff_getElem]
            refine ⟨by rw [HII.out]; simpa using hneg, j, hlt, HY.out, fun z hz => ?_⟩
            simpa using HNO.out z (by omega) hz
          have HE := Lib.hid eV
          clear eV
          go_wp2_with fail
          go_ret2
          rw [HE.out]
          exact ⟨rfl, rfl⟩
        · go_wp2_with fail
          go_round
          case rel =>
            refine ⟨j + 1, by omega, by go_num, fun z hz hzk => ?_⟩
            by_cases e2 : z = j
            · subst e2; rw [HY.out, HII.out]; omega
            · have := HNO.out z hz (by omega); omega
          case measure => simp [intOf]; omega
      · obtain rfl : j = n.it.length := by omega
        have eV : V = none := by
          rw [HV2.out, List.find?_eq_none]
          intro y hy
          obtain ⟨z, hz, rfl⟩ := List.getElem_of_mem hy
          simpa using HNO.out z hz hz
        have HE := Lib.hid eV
        clear eV
        go_wp2_with fail
        go_ret2
        rw [HE.out]
        exact ⟨rfl, rfl⟩
end Go.Proofs.YtcopjjokhjealaaGreat
