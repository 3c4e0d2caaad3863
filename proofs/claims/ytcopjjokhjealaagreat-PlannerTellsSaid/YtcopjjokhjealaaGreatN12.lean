/- The reference: Began, New. -/
import Derived.Test.YtcopjjokhjealaaGreatN11
namespace Go.Proofs.YtcopjjokhjealaaGreat
open Go.RowKit

set_option maxRecDepth 100000 in
set_option maxHeartbeats 6400000 in
theorem beganQ_any (w : World) (G : List Nat) (q : Nat) (s : Pl) (nl nc : Nat) (h : QR w G q s nl nc) (hnl : nl ≤ 1000) (hnc : nc + s.li.length ≤ 900) (hi : ∀ x n, s.ln x = some n → n.it.length ≤ 1000) (M : Nat) (hM : M ≤ 1000000) (hc : CapM M s.ct) (l i t : Int) :
    Calls Tryz.prog 35 #[.pointer (some ⟨q, 0, none⟩), .int .i64 l, .int .i64 i, .int .i64 t] w fun e w' =>
      e = .returned (.int .i64 (begE s l i t)) ∧ QN w w' G q (begS s l i t) nl (nc + 1) ∧ (begS s l i t).li.length ≤ s.li.length + 1 := by
  have HR := Lib.hid h
  have HQ := Lib.hid h.toB
  obtain ⟨LV, C, A1, A2, A3, c1, c2, c3, h, hb1, hb2⟩ := h
  have hqw : q < w.heap.size := h.b.lt
  have f0 : w.cell? ⟨q, 0, none⟩ = some (.slice A1 LV.length c1) := h.b.cell 0
  have f1 : w.cell? ⟨q, 1, none⟩ = some (.slice A2 s.li.length c2) := h.b.cell 1
  have AL := AtV.of_own h.o1 (by omega)
  have AR := AtR.of_own h.o2 (by omega)
  have LQ := Lib.hid (lineQ_any w q A1 LV c1 l f0 AL)
  have RUN := Lib.hid (runQ_any w q A2 s.li c2 l i f1 AR)
  have TRI := Lib.hid (triQ_any w q A2 s.li c2 t f1 AR)
  have MNY := Lib.hid (manyQ_any w q A2 s.li c2 l f1 AR)
  obtain ⟨V, hV⟩ : ∃ V, begE s l i t = V := ⟨_, rfl⟩
  have HS : Hid (V ≠ 0 → begS s l i t = s) := Lib.hid (fun hne => by unfold begS; rw [hV, if_neg hne])
  have HS0 : Hid (V = 0 → begS s l i t = cntS ⟨s.ln, s.li ++ [⟨l, i, t, false⟩], s.ct⟩ l i runC) := Lib.hid (fun he => by unfold begS; rw [hV, if_pos he])
  rw [hV]
  have FIN : Hid (V ≠ 0 → QN w w G q (begS s l i t) nl (nc + 1) ∧ (begS s l i t).li.length ≤ s.li.length + 1) := Lib.hid (fun hne => by
    rw [HS.out hne]
    exact ⟨(QN.same HR.out (Keeps.refl _ _)).mono (Nat.le_refl _) (by omega), by omega⟩)
  rcases h.line l with ⟨e1, e2⟩ | ⟨k, hk, n, e1, e2, e3, e4, e5, e6, e7, e8⟩
  · rw [e1] at LQ
    obtain rfl : 4 = V := by rw [← hV]; unfold begE; rw [e2]
    clear e1 e2 hV h AL AR f0 f1 hi hc
    go_enter Tryz.func35, Tryz.ntmps35
    go_wp2_with fail
    refine LQ.out.mono ?_
    rintro e w1 ⟨rfl, rfl⟩
    go_wp2_with fail
    go_ret
    exact ⟨rfl, FIN.out (by omega)⟩
  rw [e1] at LQ
  have hnl2 := hi l n e3
  have HZ := AtZ.of_own e8 (by omega)
  have HVV : Hid (V = begN s l i t n) := Lib.hid (by rw [← hV]; unfold begE; rw [e3])
  obtain ⟨bl, off, hAA, hbl, hcc⟩ := AL.at_ (by omega)
  subst hAA
  obtain ⟨-, -, -, d3⟩ := hcc k hk
  rw [e7] at d3
  obtain ⟨Ai, hAi⟩ : ∃ Ai, (LV[k].b.map fun g => (⟨g, 0, none⟩ : Addr)) = Ai := ⟨_, rfl⟩
  rw [hAi] at d3 HZ
  obtain ⟨ci, hci⟩ : ∃ c, LV[k].c = c := ⟨_, rfl⟩
  rw [hci] at d3
  have HAS := Lib.hid (has_any w Ai n.it ci i HZ)
  have i0 : (0 : Int) ≤ (k : Int) := by omega
  have i1 : (k : Int) < (LV.length : Int) := by omega
  have i2 : ¬ (k : Int) < 0 := by omega
  have HO2 := Lib.hid h.o2
  have HQA : Hid (∀ W, Keeps [] w W → QAt W G q s LV C (some ⟨bl, off, none⟩) A2 A3 c1 c2 c3) := Lib.hid (fun W k => h.keep0 k)
  have HC := Lib.hid hc
  have HI := Lib.hid info69
  clear e1 e2 e3 e4 e5 e6 e7 e8 hAi hci hcc AL AR HZ h hi hc
  by_cases t1 : t < 1
  · obtain rfl : 1 = V := by rw [HVV.out]; unfold begN; rw [if_pos t1]
    clear hV HVV
    go_enter Tryz.func35, Tryz.ntmps35
    go_wp2_with fail
    refine LQ.out.mono ?_
    rintro e w1 ⟨rfl, rfl⟩
    go_wp2_with fail
    go_ret
    exact ⟨rfl, FIN.out (by omega)⟩
  cases hin : decide (i ∈ n.it) with
  | false =>
    obtain rfl : 3 = V := by rw [HVV.out]; unfold begN; rw [if_neg t1, if_pos (by simpa using hin)]
    rw [hin] at HAS
    clear hV HVV hin
    go_enter Tryz.func35, Tryz.ntmps35
    go_wp2_with fail
    refine LQ.out.mono ?_
    rintro e w1 ⟨rfl, rfl⟩
    go_wp2_with fail
    refine HAS.out.mono ?_
    rintro e w1 ⟨rfl, rfl⟩
    go_wp2_with fail
    go_ret
    exact ⟨rfl, FIN.out (by omega)⟩
  | true =>
  rw [hin] at HAS
  have hin2 : ¬ i ∉ n.it := by simpa using hin
  have HVI : Hid (V = if 0 ≤ fndI s.li l i ∨ 0 ≤ triI s.li t then 5 else if 4 ≤ manyI s.li l then 6 else 0) := Lib.hid (by rw [HVV.out]; unfold begN; rw [if_neg t1, if_neg hin2])
  clear hin hin2 HVV hV
  obtain ⟨I, hI⟩ : ∃ I, fndI s.li l i = I := ⟨_, rfl⟩
  obtain ⟨J, hJ⟩ : ∃ J, triI s.li t = J := ⟨_, rfl⟩
  obtain ⟨Mn, hMn⟩ : ∃ J, manyI s.li l = J := ⟨_, rfl⟩
  rw [hI] at RUN HVI
  rw [hJ] at TRI HVI
  rw [hMn] at MNY HVI
  clear hI hJ hMn
  by_cases q1 : 0 ≤ I
  · obtain rfl : 5 = V := by rw [HVI.out, if_pos (.inl q1)]
    have q1b : decide (0 ≤ I) = true := by simpa using q1
    clear HVI TRI MNY
    go_enter Tryz.func35, Tryz.ntmps35
    go_wp2_with fail
    refine LQ.out.mono ?_
    rintro e w1 ⟨rfl, rfl⟩
    go_wp2_with fail
    refine HAS.out.mono ?_
    rintro e w1 ⟨rfl, rfl⟩
    go_wp2_with fail
    refine RUN.out.mono ?_
    rintro e w1 ⟨rfl, rfl⟩
    go_wp2_with fail
    go_ret
    exact ⟨rfl, FIN.out (by omega)⟩
  by_cases q2 : 0 ≤ J
  · obtain rfl : 5 = V := by rw [HVI.out, if_pos (.inr q2)]
    clear HVI MNY
    go_enter Tryz.func35, Tryz.ntmps35
    go_wp2_with fail
    refine LQ.out.mono ?_
    rintro e w1 ⟨rfl, rfl⟩
    go_wp2_with fail
    refine HAS.out.mono ?_
    rintro e w1 ⟨rfl, rfl⟩
    go_wp2_with fail
    refine RUN.out.mono ?_
    rintro e w1 ⟨rfl, rfl⟩
    go_wp2_with fail
    refine TRI.out.mono ?_
    rintro e w1 ⟨rfl, rfl⟩
    go_wp2_with fail
    go_ret
    exact ⟨rfl, FIN.out (by omega)⟩
  by_cases q3 : 4 ≤ Mn
  · obtain rfl : 6 = V := by rw [HVI.out, if_neg (by omega), if_pos q3]
    have q3i : (4 : Int) ≤ (Mn : Int) := by omega
    clear HVI
    go_enter Tryz.func35, Tryz.ntmps35
    go_wp2_with fail
    refine LQ.out.mono ?_
    rintro e w1 ⟨rfl, rfl⟩
    go_wp2_with fail
    refine HAS.out.mono ?_
    rintro e w1 ⟨rfl, rfl⟩
    go_wp2_with fail
    refine RUN.out.mono ?_
    rintro e w1 ⟨rfl, rfl⟩
    go_wp2_with fail
    refine TRI.out.mono ?_
    rintro e w1 ⟨rfl, rfl⟩
    go_wp2_with fail
    refine MNY.out.mono ?_
    rintro e w1 ⟨rfl, rfl⟩
    go_wp2_with fail
    go_ret
    exact ⟨rfl, FIN.out (by omega)⟩
  obtain rfl : 0 = V := by rw [HVI.out, if_neg (by omega), if_neg q3]
  have q3i : ¬ (4 : Int) ≤ (Mn : Int) := by omega
  have KA : Hid (Keeps [] w (w.alloc (.cells #[] 69))) := Lib.hid ((Keeps.refl [] w).alloc _)
  have HE : Hid ((w.alloc (.cells #[] 69)).ownsRow 0 69 4 (.slice (some ⟨w.heap.size, 0, none⟩) 0 0) 0 []) := Lib.hid (own_of_blk (Blk.new w 69 #[]) (by omega) (by omega) rfl rfl)
  have fz : w.frozen? ⟨q, 1, none⟩ = false := (HQA.out w (Keeps.refl _ _)).b.frozen 1
  clear HVI FIN
  go_enter Tryz.func35, Tryz.ntmps35
  go_wp2_with fail
  refine LQ.out.mono ?_
  rintro e w1 ⟨rfl, rfl⟩
  go_wp2_with fail
  refine HAS.out.mono ?_
  rintro e w1 ⟨rfl, rfl⟩
  go_wp2_with fail
  refine RUN.out.mono ?_
  rintro e w1 ⟨rfl, rfl⟩
  go_wp2_with fail
  refine TRI.out.mono ?_
  rintro e w1 ⟨rfl, rfl⟩
  go_wp2_with fail
  refine MNY.out.mono ?_
  rintro e w1 ⟨rfl, rfl⟩
  go_wp2_with (at_builtin; refine wpList_app _ rfl (.tmp 44) (.tmp 48) _ rfl 69 (.agg #[.int .i64 0, .int .i64 0, .int .i64 0, .bool false]) 4 32 Tryz.underlying58 HI.out rfl (by omega) (.slice (some ⟨w1.heap.size, 0, none⟩) 0 0) 0 [] rfl HE.out _ A2 _ _ (rw rcs s.li) rfl (reads_own (HQA.out _ KA.out).o2) (rw_one rcs_one _) (by unfold maxLen; omega) (by omega) ?_)
  intro vl w3 ol kl fl
  have OL := Lib.hid ol
  have K3 : Hid (Keeps [] w1 w3) := Lib.hid (KA.out.trans kl (fun g hg => .inr (by simp at hg; omega)))
  have FL : Hid (∀ g ∈ fp vl, w1.heap.size ≤ g) := Lib.hid (fun g hg => (fl g hg).elim (fun h => by omega) (fun h => by omega))
  obtain ⟨Al, cl, rfl, -, -, -⟩ := own_shape OL.out
  have f13 : w3.cell? ⟨q, 1, none⟩ = some (.slice A2 s.li.length c2) := (K3.out.cell (p := ⟨q, 1, none⟩) hqw (by simp)).trans f1
  have fz3 : w3.frozen? ⟨q, 1, none⟩ = false := (K3.out.frozen (p := ⟨q, 1, none⟩) hqw (by simp)).trans fz
  have hq3 : q < w3.heap.size := Nat.lt_of_lt_of_le hqw K3.out.size
  have KB : Hid (Keeps [] w3 (w3.alloc (.cells #[.int .i64 l, .int .i64 i, .int .i64 t, .bool false] 69))) := Lib.hid ((Keeps.refl [] w3).alloc _)
  have OL2 : Hid ((w3.alloc (.cells #[.int .i64 l, .int .i64 i, .int .i64 t, .bool false] 69)).ownsRow 0 69 4 (.slice Al s.li.length cl) s.li.length (rw rcs s.li)) := Lib.hid (own_keep OL.out KB.out (by simp))
  have HRD : Hid (Reads (w3.alloc (.cells #[.int .i64 l, .int .i64 i, .int .i64 t, .bool false] 69)) (w3.heap.size + 1) 4 (some ⟨w3.heap.size, 0, none⟩) 1 (rcs ⟨l, i, t, false⟩)) := Lib.hid (reads_cells w3 #[.int .i64 l, .int .i64 i, .int .i64 t, .bool false] 1 4 69 rfl)
  clear ol kl fl KA HE f1 fz
  go_wp2_with (at_builtin; refine wpList_app _ rfl (.tmp 49) (.tmp 54) _ rfl 69 (.agg #[.int .i64 0, .int .i64 0, .int .i64 0, .bool false]) 4 32 Tryz.underlying58 HI.out rfl (by omega) (.slice Al s.li.length cl) _ _ rfl OL2.out _ _ _ _ (rcs ⟨l, i, t, false⟩) rfl HRD.out (rcs_one _) (by unfold maxLen; omega) (by omega) ?_)
  intro v6 w6 o6 k6 f6
  have KX : Hid (Keeps [] w1 w6) := Lib.hid ((K3.out.trans KB.out (by simp)).trans k6 (fun g hg => .inr (FL.out g hg)))
  have hz3 := K3.out.size
  have F6 : Hid (∀ g ∈ fp v6, w1.heap.size ≤ g) := Lib.hid (fun g hg => (f6 g hg).elim (FL.out g) (fun h => by have h2 : w3.heap.size + 1 ≤ g := (by simpa using h); omega))
  have O6 : Hid (w6.ownsRow 0 69 4 v6 (⟨s.ln, s.li ++ [⟨l, i, t, false⟩], s.ct⟩ : Pl).li.length (rw rcs (⟨s.ln, s.li ++ [⟨l, i, t, false⟩], s.ct⟩ : Pl).li)) := Lib.hid (by
    show w6.ownsRow 0 69 4 v6 (s.li ++ [_]).length (rw rcs (s.li ++ [_]))
    rw [List.length_append, rw_append, rw_cons, rw_nil, List.append_nil]; exact o6)
  obtain ⟨A6, c6, rfl, -, -, -⟩ := own_shape O6.out
  obtain ⟨G1, hG1, hs1⟩ := (HQA.out w6 KX.out).putR (s' := ⟨s.ln, s.li ++ [⟨l, i, t, false⟩], s.ct⟩) O6.out (w := w1) F6.out hqw rfl rfl
  have fq6 := (HQA.out w6 KX.out).b.frozen 1
  have fc6 := (HQA.out w6 KX.out).b.cell 1
  have HG1 := Lib.hid hG1
  have HS1 := Lib.hid hs1
  clear o6 k6 f6 OL2 KB HRD f13 fz3 hG1 hs1
  go_wp2_with fail
  obtain ⟨W1, hW1⟩ : ∃ W, w6.setCell ⟨q, 1, none⟩ (.slice A6 (⟨s.ln, s.li ++ [⟨l, i, t, false⟩], s.ct⟩ : Pl).li.length c6) = W := ⟨_, rfl⟩
  have K7 : Hid (Keeps [q] w1 W1) := Lib.hid (by rw [← hW1]; exact (KX.out.mono (by simp)).setCell (.inl (by simp)) _)
  rw [hW1] at HG1
  have eL : (s.li.length + 1) = (⟨s.ln, s.li ++ [⟨l, i, t, false⟩], s.ct⟩ : Pl).li.length := by show _ = (s.li ++ [_]).length; simp
  try rw [eL]
  rw [hW1]
  clear hW1 fq6 fc6 O6 F6 KX
  refine (countB_any W1 G1 q ⟨s.ln, s.li ++ [⟨l, i, t, false⟩], s.ct⟩ nl nc w1.heap.size ⟨_, _, _, _, _, _, _, _, HG1.out, hb1, hb2, ?_⟩ (by omega) ⟨l, i, 1, 0, 0, 0, 0⟩ M hM HC.out ⟨by simp, by simp, by simp, by simp, by simp⟩).mono ?_
  · obtain ⟨LV', C', _, _, _, _, _, _, hqq, -, -, hvb⟩ := HQ.out
    intro v hv g hg
    obtain ⟨n', _, _, _, _, _, e5⟩ := (HQA.out w1 (Keeps.refl _ _)).ls v hv
    rw [hg] at e5
    exact own_lt e5 (by simp [fp, Value.ownBlock])
  rintro e w9 ⟨rfl, hq9⟩
  have QQ := Lib.hid (QM.trans K7.out HS1.out hq9)
  clear hq9
  go_wp2_with fail
  go_ret
  rw [HS0.out (by first | rfl | trivial)]
  exact ⟨rfl, QQ.out.toN, by show (s.li ++ [_]).length ≤ _; simp⟩
end Go.Proofs.YtcopjjokhjealaaGreat
