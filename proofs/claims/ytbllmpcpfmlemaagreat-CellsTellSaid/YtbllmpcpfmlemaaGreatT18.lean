/- The reference: Note, Assume (printed by t18gen.py). -/
import Derived.Test.YtbllmpcpfmlemaaGreatT17
namespace Go.Proofs.YtbllmpcpfmlemaaGreat
open Go.RowKit
set_option maxRecDepth 100000 in
set_option maxHeartbeats 12800000 in
theorem rNoteOp_any {P : List Str} {w : World} {d : Nat} {F G : List Nat} {C : St} (h : Rf w d F G C) (hW : WF P C) (hP : PoolOk P) (hl : C.length ≤ 1000000) (i : Int) (r : RdA) (A4 : Option Addr) (p4 : Nat) (hA : AtS w A4 r.list) :
    Calls Tryz.prog 53 #[.pointer (some ⟨d, 0, none⟩), .int .i64 i, .agg #[.int .i64 r.kind, sv r.key, sv r.val, .slice A4 r.list.length p4]] w fun e w' => e = .returned (.tuple #[]) ∧ RTurn w w' d F G (noteP C i r) := by
  obtain ⟨q, hq⟩ : ∃ q, w.heap.size = q := ⟨_, rfl⟩
  obtain ⟨W, hWa⟩ : ∃ W, w.alloc (.cells #[.int .i64 r.kind, sv r.key, sv r.val, .slice A4 r.list.length p4] 34) = W := ⟨_, rfl⟩
  have kW : Keeps [] w W := by rw [← hWa]; exact (Keeps.refl _ _).alloc _
  have bq : Blk W q 34 #[.int .i64 r.kind, sv r.key, sv r.val, .slice A4 r.list.length p4] := by rw [← hWa, ← hq]; exact Blk.new _ _ _
  have CP := Lib.hid (place_any (h.keep0 kW) hl i)
  have HS := Lib.hid (fun X (hk : Keeps [] W X) => RTurn.same h (kW.trans hk (by simp)))
  cases hh : has C i with
  | false =>
    have e0 : noteP C i r = C := by unfold noteP; rw [find_none.2 hh]
    rw [e0]
    rw [plc_no hh] at CP
    clear h hh e0 hA kW bq
    go_enter Tryz.func53, Tryz.ntmps53
    go_wp2_with fail
    try rw [hWa]
    refine CP.out.mono ?_
    rintro e w1 ⟨rfl, rfl⟩
    go_wp2_with fail
    refine bodyPost_ret (results_none rfl _ _ _) rfl ?_
    exact ⟨rfl, HS.out _ (Keeps.refl _ _)⟩
  | true =>
    have hR0 := hW.tree.row0
    obtain ⟨x, j, g, n, cap, A1, A2, A3, p1, p2, p3, hf, hx, rfl, hp, hj, hn, hz, hpl⟩ := h.open_ hR0 hh
    rw [hp] at CP
    by_cases h0 : x.id = 0
    · have e0 : noteP C x.id r = C := by unfold noteP; rw [hf]; dsimp only; rw [if_pos h0]
      rw [e0]
      have hj0 : j = 0 := hz.2 h0
      subst hj0
      clear h hh e0 hA kW bq hf hx hp hj hn hz hpl h0 hR0
      go_enter Tryz.func53, Tryz.ntmps53
      go_wp2_with fail
      try rw [hWa]
      refine CP.out.mono ?_
      rintro e w1 ⟨rfl, rfl⟩
      go_wp2_with fail
      refine bodyPost_ret (results_none rfl _ _ _) rfl ?_
      exact ⟨rfl, HS.out _ (Keeps.refl _ _)⟩
    have i0 : ¬ ((j : Int) ≤ 0) := by
      intro h1
      exact h0 (hz.1 (by omega))
    have i2 : (0 : Int) ≤ (j : Int) := by omega
    have i3 : (j : Int) < (n : Int) := by omega
    have hok := hW.ok x hx
    have hwl : x.wr.length ≤ 1000000 := hP.leK hok.wr hok.wp
    have hrl : x.rd.length ≤ 2000000 := rd_le hW hP hx
    have hnl : n ≤ 1000000 := by omega
    have HAT := Lib.hid (hR0.at_ hf hp)
    have HH := Lib.hid (h.keep0 kW)
    have HFL : Hid (∀ g ∈ F, g < W.heap.size) := Lib.hid (h.keep0 kW).ltF
    have HFl : Hid (∀ g ∈ F, g < w.heap.size) := Lib.hid h.ltF
    have KW := Lib.hid kW
    have HPL := Lib.hid (hpl.keep0 kW)
    have BQ := Lib.hid bq
    have HLA := Lib.hid (hA.keep kW)
    have hml := hA.mx
    have HN0 : Hid (noteP C x.id r = if r.kind = 0 then (if opn x r.key then upd C x.id (addRd (.cell r.key r.val)) else C) else if r.kind = 1 then (if keysOf x.rd r.key = none ∧ proper r.key r.list = true then upd C x.id (addRd (.keys r.key r.list)) else C) else C) := Lib.hid (by unfold noteP; rw [hf]; dsimp only; rw [if_neg h0])
    have H0 := Lib.hid h0
    obtain ⟨n1, hn1⟩ : ∃ z, x.wr.length = z := ⟨_, rfl⟩
    obtain ⟨n2, hn2⟩ : ∃ z, x.rd.length = z := ⟨_, rfl⟩
    obtain ⟨n3, hn3⟩ : ∃ z, x.lg.length = z := ⟨_, rfl⟩
    obtain ⟨zi, hzi⟩ : ∃ z, x.id = z := ⟨_, rfl⟩
    obtain ⟨zp, hzp⟩ : ∃ z, x.par = z := ⟨_, rfl⟩
    have HSS : Hid (∀ X, Keeps [] W X → X.cell? ⟨d, 0, none⟩ = some (.slice (some ⟨g, 0, none⟩) n cap) ∧ X.cell? ⟨g, j * 5, none⟩ = some (.int .i64 zi) ∧ X.cell? ⟨g, j * 5 + 1, none⟩ = some (.int .i64 zp) ∧ X.cell? ⟨g, j * 5 + 2, none⟩ = some (.slice A1 n1 p1) ∧ X.cell? ⟨g, j * 5 + 3, none⟩ = some (.slice A2 n2 p2) ∧ X.cell? ⟨g, j * 5 + 4, none⟩ = some (.slice A3 n3 p3) ∧ X.cell? ⟨q, 0, none⟩ = some (.int .i64 r.kind) ∧ X.cell? ⟨q, 1, none⟩ = some (sv r.key)) := Lib.hid (fun X hk => by
      rw [← hn1, ← hn2, ← hn3, ← hzi, ← hzp]
      obtain ⟨f0, c0, c1, c2, c3, c4, -, -, -⟩ := HPL.out.keep0 hk
      have b := BQ.out.keep hk (by simp)
      exact ⟨f0, c0, c1, c2, c3, c4, b.cell 0, b.cell 1⟩)
    have HQ3 : Hid (∀ X, Keeps [] W X → X.cell? ⟨q, 2, none⟩ = some (sv r.val) ∧ X.cell? ⟨q, 3, none⟩ = some (.slice A4 r.list.length p4)) := Lib.hid (fun X hk => by
      have b := BQ.out.keep hk (by simp)
      exact ⟨b.cell 2, b.cell 3⟩)
    have HCW : Hid (∀ X, Keeps [] W X → Calls Tryz.prog 61 #[.agg #[.int .i64 zi, .int .i64 zp, .slice A1 n1 p1, .slice A2 n2 p2, .slice A3 n3 p3], sv r.key] X fun e w' => e = .returned (.tuple #[sv ((mget x.wr r.key).getD []), .bool (mget x.wr r.key).isSome]) ∧ Keeps [] X w') := Lib.hid (fun X hk => by
      rw [← hn1, ← hn2, ← hn3, ← hzi, ← hzp]
      exact wrote_any (HPL.out.keep0 hk).o hwl r.key)
    have HCR : Hid (∀ X kd, Keeps [] W X → Calls Tryz.prog 62 #[.agg #[.int .i64 zi, .int .i64 zp, .slice A1 n1 p1, .slice A2 n2 p2, .slice A3 n3 p3], .int .i64 kd, sv r.key] X fun e w' => e = .returned (.int .i64 (rdIx kd r.key x.rd)) ∧ Keeps [] X w') := Lib.hid (fun X kd hk => by
      rw [← hn1, ← hn2, ← hn3, ← hzi, ← hzp]
      exact read_any (HPL.out.keep0 hk).o hrl kd r.key)
    rw [hzi] at CP HN0 ⊢
    have HZI := Lib.hid hzi
    have hk0 : W.cell? ⟨q, 0, none⟩ = some (.int .i64 r.kind) := bq.cell 0
    clear hh hf hx hp hj hz hpl hok hwl h0 hn1 hn2 hn3 hzi hzp kW bq hA hn h
    by_cases hk : r.kind = 0
    · have HK0 : Hid (r.kind = 0) := Lib.hid hk
      have HK1 : Hid ((r.kind == 1) = false) := Lib.hid (by rw [hk]; rfl)
      have e3 : (r.kind == 0) = true := by rw [hk]; rfl
      have HNN : Hid (noteP C zi r = if opn x r.key then upd C zi (addRd (.cell r.key r.val)) else C) := Lib.hid (by rw [HN0.out, if_pos hk])
      clear hk HN0
      go_enter Tryz.func53, Tryz.ntmps53
      go_wp2_with fail
      try rw [hWa]
      refine CP.out.mono ?_
      rintro e w1 ⟨rfl, rfl⟩
      clear CP hWa
      go_upto_region 4 with fail
      refine no4_any w1 d q g n cap j n1 n2 n3 p1 p2 p3 A1 A2 A3 zi zp r.kind r.key ((mget x.wr r.key).getD []) (mget x.wr r.key).isSome _ (fun X hk => HSS.out X hk) (fun X hk => HCW.out X hk) i2 i3 _ _ _ _ _ _ _ _ _ _ _ _ _ _ _ _ _ _ _ _ _ _ _ _ _ _ _ _ _ _ _ _ _ _ _ _ _ _ _ _ _ _ _ _ _ _ _ _ _ _ _ _ _ _ _ _ _ _ _ _ _ _ _ _ _ _ _ _ _ _ _ _ _ _ _ _ _ _ _ _ _ _ _ _ _ _ _ _ _ _ _ _ _ _ _ _ _ _ _ _ _ _ _ _ _ _ _ _ _ _ _ _ ?_
      intro v18 v19 v20 v21 v22 v23 v24 v25 v26 v27 v28 v29 v30 X1 hk1
      have KX := Lib.hid hk1
      clear hk1 hk0 e3
      cases hmg : mget x.wr r.key with
      | some v =>
        have HE : Hid (noteP C zi r = C) := Lib.hid (by rw [HNN.out, if_neg (by simp [opn, hmg])])
        clear hmg HNN
        dsimp only [Option.isSome, Option.getD]
        go_upto_region 5 with fail
        refine no5t_any X1 d q j _ _ _ _ _ _ _ _ _ _ _ _ _ _ _ _ _ _ _ _ _ _ _ _ _ _ _ _ _ _ _ _ _ _ _ _ _ _ _ _ _ _ _ _ _ _ _ _ _ _ _ _ _ _ _ _ _ _ _ _ _ _ _ _ _ _ _ _ _ _ _ _ _ _ _ _ _ _ _ _ _ _ _ _ _ _ _ _ _ _ _ _ _ _ _ _ _ _ _ _ _ _ _ _ _ _ _ _ _ _ _ _ ?_
        intro v31 v32 v33 v34 v35 v36 v37 v38 v39 v40 v41 v42 v43 v44 nq0
        obtain ⟨X2, hX2⟩ : ∃ X2, X1.drewN nq0 = X2 := ⟨_, rfl⟩
        have KX2 : Hid (Keeps [] w1 X2) := Lib.hid (by rw [← hX2]; exact KX.out.drewN nq0)
        rw [hX2]
        clear hX2 KX
        have KX := KX2
        clear KX2
        go_upto_region 7 with fail
        refine no7t_any X2 d q j r.kind _ ((HSS.out _ KX.out).2.2.2.2.2.2.1) HK1.out _ _ _ _ _ _ _ _ _ _ _ _ _ _ _ _ _ _ _ _ _ _ _ _ _ _ _ _ _ _ _ _ _ _ _ _ _ _ _ _ _ _ _ _ _ _ _ _ _ _ _ _ _ _ _ _ _ _ _ _ _ _ _ _ _ _ _ _ _ _ _ _ _ _ _ _ _ _ _ _ _ _ _ _ _ _ _ _ _ _ _ _ _ _ _ _ _ _ _ _ _ _ _ _ _ _ _ _ _ _ _ _ ?_
        intro v54 v55 v56 v57 v58 v59 v60 v61 v62 v63 v64 v65 v66 v67 v68 nq
        have KE := Lib.hid ((Keeps.refl [] X2).drewN nq)
        go_wp2_with fail
        go_end0
        exact ⟨rfl, (by rw [HE.out]; exact HS.out _ (KX.out.trans KE.out (by simp)))⟩
      | none =>
        have HMG := Lib.hid hmg
        dsimp only [Option.isSome, Option.getD]
        go_upto_region 5 with fail
        obtain ⟨rx, hrx⟩ : ∃ rx, rdIx 0 r.key x.rd = rx := ⟨_, rfl⟩
        refine no5_any X1 d q g n cap j n1 n2 n3 p1 p2 p3 A1 A2 A3 zi zp r.kind r.key rx (decide (rx < 0)) _ (fun X hk => HSS.out X (KX.out.trans hk (by simp))) (fun X hk => by rw [← hrx]; exact HCR.out X 0 (KX.out.trans hk (by simp))) i2 i3 rfl _ _ _ _ _ _ _ _ _ _ _ _ _ _ _ _ _ _ _ _ _ _ _ _ _ _ _ _ _ _ _ _ _ _ _ _ _ _ _ _ _ _ _ _ _ _ _ _ _ _ _ _ _ _ _ _ _ _ _ _ _ _ _ _ _ _ _ _ _ _ _ _ _ _ _ _ _ _ _ _ _ _ _ _ _ _ _ _ _ _ _ _ _ _ _ _ _ _ _ _ _ _ _ _ _ _ _ _ _ _ _ ?_
        intro v31 v32 v33 v34 v35 v36 v37 v38 v39 v40 v41 v42 v43 v44 X2 hk2
        have KX2 := Lib.hid (KX.out.trans hk2 (by simp))
        clear hk2 KX hmg
        have KX := KX2
        clear KX2
        rcases rdIx_cell r.key x.rd with ⟨h1, h2⟩ | ⟨qq, hqq, h1, h2⟩
        · have hrx0 : rx = -1 := by rw [← hrx, h2]
          subst hrx0
          have HE : Hid (noteP C zi r = upd C zi (addRd (.cell r.key r.val))) := Lib.hid (by rw [HNN.out, if_pos (by simp [opn, HMG.out, h1, H0.out])])
          clear h1 h2 hrx HNN
          obtain ⟨hkk, hxx⟩ := HAT.out
          have CN := Lib.hid (rNote_any (HH.out.keep0 KX.out) hR0 hl hkk hxx hrl (.cell r.key r.val) none 0 (World.ownsRow_nil _ _ _ _) (by simp))
          rw [HZI.out] at CN
          have z1 := (HSS.out _ KX.out).2.2.2.2.2.2.2
          have z2 := (HQ3.out _ KX.out).1
          clear hkk hxx
          go_wp2_with fail
          refine CN.out.mono ?_
          rintro e X3 ⟨rfl, ht⟩
          have HT : Hid (RTurn w X3 d F G (noteP C zi r)) := Lib.hid (by rw [HE.out]; exact (ht.after KX.out).after KW.out)
          have hk3 : X3.cell? ⟨q, 0, none⟩ = some (.int .i64 r.kind) := by
            obtain ⟨_, _, _, _, _, kk⟩ := ht
            have hb := BQ.out.keep KX.out (by simp)
            exact (hb.keep kk (fun h' => by have := HFl.out q h'; omega)).cell 0
          clear ht z1 z2 CN
          go_upto_region 7 with fail
          refine no7t_any X3 d q j r.kind _ hk3 HK1.out _ _ _ _ _ _ _ _ _ _ _ _ _ _ _ _ _ _ _ _ _ _ _ _ _ _ _ _ _ _ _ _ _ _ _ _ _ _ _ _ _ _ _ _ _ _ _ _ _ _ _ _ _ _ _ _ _ _ _ _ _ _ _ _ _ _ _ _ _ _ _ _ _ _ _ _ _ _ _ _ _ _ _ _ _ _ _ _ _ _ _ _ _ _ _ _ _ _ _ _ _ _ _ _ _ _ _ _ _ _ _ _ ?_
          intro v54 v55 v56 v57 v58 v59 v60 v61 v62 v63 v64 v65 v66 v67 v68 nq
          have HT2 := Lib.hid (HT.out.before ((Keeps.refl [] X3).drewN nq))
          go_wp2_with fail
          go_end0
          exact ⟨rfl, HT2.out⟩
        · have HE : Hid (noteP C zi r = C) := Lib.hid (by rw [HNN.out, if_neg (by simp [opn, h2])])
          have hrf : decide (rx < 0) = false := decide_eq_false (by rw [← hrx, h1]; omega)
          rw [hrf]
          clear h1 h2 hrx HNN hrf hqq
          go_upto_region 7 with fail
          refine no7t_any X2 d q j r.kind _ ((HSS.out _ KX.out).2.2.2.2.2.2.1) HK1.out _ _ _ _ _ _ _ _ _ _ _ _ _ _ _ _ _ _ _ _ _ _ _ _ _ _ _ _ _ _ _ _ _ _ _ _ _ _ _ _ _ _ _ _ _ _ _ _ _ _ _ _ _ _ _ _ _ _ _ _ _ _ _ _ _ _ _ _ _ _ _ _ _ _ _ _ _ _ _ _ _ _ _ _ _ _ _ _ _ _ _ _ _ _ _ _ _ _ _ _ _ _ _ _ _ _ _ _ _ _ _ _ ?_
          intro v54 v55 v56 v57 v58 v59 v60 v61 v62 v63 v64 v65 v66 v67 v68 nq
          have KE := Lib.hid ((Keeps.refl [] X2).drewN nq)
          go_wp2_with fail
          go_end0
          exact ⟨rfl, (by rw [HE.out]; exact HS.out _ (KX.out.trans KE.out (by simp)))⟩
    · have e3 : (r.kind == 0) = false := by simpa using hk
      have HK0 := Lib.hid hk
      by_cases hk1 : r.kind = 1
      · have HK1 : Hid ((r.kind == 1) = true) := Lib.hid (by rw [hk1]; rfl)
        have HNN : Hid (noteP C zi r = if keysOf x.rd r.key = none ∧ proper r.key r.list = true then upd C zi (addRd (.keys r.key r.list)) else C) := Lib.hid (by rw [HN0.out, if_neg hk, if_pos hk1])
        clear hk HN0 hk1
        go_enter Tryz.func53, Tryz.ntmps53
        go_wp2_with fail
        try rw [hWa]
        refine CP.out.mono ?_
        rintro e w1 ⟨rfl, rfl⟩
        clear CP hWa
        go_upto_region 7 with fail
        obtain ⟨rx, hrx⟩ : ∃ rx, rdIx 1 r.key x.rd = rx := ⟨_, rfl⟩
        refine no7_any w1 d q g n cap j n1 n2 n3 p1 p2 p3 A1 A2 A3 zi zp r.kind r.key rx (decide (rx < 0)) _ (fun X hk => HSS.out X hk) (fun X hk => by rw [← hrx]; exact HCR.out X 1 hk) i2 i3 HK1.out rfl _ _ _ _ _ _ _ _ _ _ _ _ _ _ _ _ _ _ _ _ _ _ _ _ _ _ _ _ _ _ _ _ _ _ _ _ _ _ _ _ _ _ _ _ _ _ _ _ _ _ _ _ _ _ _ _ _ _ _ _ _ _ _ _ _ _ _ _ _ _ _ _ _ _ _ _ _ _ _ _ _ _ _ _ _ _ _ _ _ _ _ _ _ _ _ _ _ _ _ _ _ _ _ _ _ _ _ _ _ _ _ _ ?_
        intro v54 v55 v56 v57 v58 v59 v60 v61 v62 v63 v64 v65 v66 v67 v68 X1 hk2
        have KX := Lib.hid hk2
        clear hk2 hk0 e3
        rcases rdIx_keys r.key x.rd with ⟨h1, h2⟩ | ⟨qq, hqq, h1, h2⟩
        · have hrx0 : rx = -1 := by rw [← hrx, h2]
          subst hrx0
          have HE : Hid (noteP C zi r = if proper r.key r.list = true then upd C zi (addRd (.keys r.key r.list)) else C) := Lib.hid (by
            rw [HNN.out]
            by_cases hpp : proper r.key r.list = true
            · rw [if_pos ⟨h1, hpp⟩, if_pos hpp]
            · rw [if_neg (fun h => hpp h.2), if_neg hpp])
          clear h1 h2 hrx HNN
          obtain ⟨E, hE⟩ : ∃ E, noteP C zi r = E := ⟨_, rfl⟩
          rw [hE] at HE
          have HEE := Lib.hid hE
          obtain ⟨l, hll⟩ : ∃ l, r.list = l := ⟨_, rfl⟩
          rw [hll] at HE HLA hml HQ3
          have HPT : Hid ((∀ j (hj : j < l.length), pre r.key l[j] = true ∧ (∀ i (hi : i < l.length), j = i + 1 → l[i] < l[j])) → E = upd C zi (addRd (.keys r.key l))) := Lib.hid (fun h => by rw [HE.out, if_pos (proper_true h)])
          have HPF : Hid (proper r.key l = false → E = C) := Lib.hid (fun h => by rw [HE.out, if_neg (by rw [h]; simp)])
          have z3 := (HQ3.out _ KX.out).2
          clear HE hE hll BQ
          go_wp2_with fail
          go_loopw [9] (fun iv wr => ∃ k : Nat, k ≤ l.length ∧ iv = .int .i64 k ∧ Keeps [] w1 wr ∧ ∀ j (hj : j < l.length), j < k → pre r.key l[j] = true ∧ (∀ i (hi : i < l.length), j = i + 1 → l[i] < l[j])) (fun iv _ => l.length - (intOf iv).toNat)
          case atStart => exact ⟨0, by omega, rfl, KX.out, fun j hj h => absurd h (by omega)⟩
          case round =>
            obtain ⟨k, hkl, rfl, hkr, hall⟩ := hrel
            have KR := Lib.hid hkr
            have HALL := Lib.hid hall
            clear hkr hall z3
            have z3 := (HQ3.out _ KR.out).2
            by_cases hlt : k < l.length
            · obtain ⟨bl, off, hAA, -, hc⟩ := (HLA.out.keep KR.out).at_ (by omega)
              subst hAA
              have c0 := hc k hlt
              have j0 : (0 : Int) ≤ (k : Int) := by omega
              have j1 : (k : Int) < (l.length : Int) := by omega
              have HB := Lib.hid (fun X => begins_any l[k] r.key X)
              have HCC : Hid (∀ X, Keeps [] wr X → ∀ j (hj : j < l.length), X.cell? ⟨bl, off + j, none⟩ = some (sv l[j])) := Lib.hid (fun X hk j hj => (hk.cell (p := ⟨bl, off + j, none⟩) (show bl < wr.heap.size from cell_lt c0) (by simp)).trans (hc j hj))
              cases hp : pre r.key l[k] with
              | false =>
                rw [hp] at HB
                have HF := Lib.hid (HPF.out (proper_false1 hlt hp))
                have HC0 : Hid (∀ X, Keeps [] wr X → X.cell? ⟨q, 1, none⟩ = some (sv r.key) ∧ X.cell? ⟨q, 3, none⟩ = some (.slice (some ⟨bl, off, none⟩) l.length p4) ∧ X.cell? ⟨bl, off + k, none⟩ = some (sv l[k])) := Lib.hid (fun X hk => ⟨(HSS.out X (KR.out.trans hk (by simp))).2.2.2.2.2.2.2, (HQ3.out X (KR.out.trans hk (by simp))).2, HCC.out X hk k hlt⟩)
                obtain ⟨y, hy⟩ : ∃ y, l[k] = y := ⟨_, rfl⟩
                rw [hy] at HB HC0 c0
                clear hp hc hy
                go_upto_region 11 with fail
                refine no11f_any wr q bl off l.length p4 k r.key y _ HC0.out HB.out j0 j1 _ _ _ _ _ _ _ _ _ _ _ _ _ _ _ _ _ _ _ _ _ _ _ _ _ _ _ _ _ _ _ _ _ _ _ _ _ _ _ _ _ _ _ _ _ _ _ _ _ _ _ _ _ _ _ _ _ _ _ _ _ _ _ _ _ _ _ _ _ _ _ _ _ _ _ _ _ _ _ _ _ _ _ _ _ _ _ _ _ _ _ _ _ _ _ _ _ _ _ _ _ _ _ _ _ _ _ _ _ _ _ _ _ ?_
                intro v77 v78 v79 v80 v81 v82 v83 v84 v85 v86 v87 v88 v89 v90 v91 v92 v93 v94 v95 v96 v97 v98 v99 v100 v101 v102 v103 X2 hk2
                have HT2 : Hid (RTurn w X2 d F G E) := Lib.hid (by rw [HF.out]; exact HS.out X2 (KR.out.trans hk2 (by simp)))
                clear hk2
                go_wp2_with fail
                refine bodyPost_ret (results_none rfl _ _ _) rfl ?_
                exact ⟨rfl, by rw [HEE.out]; exact HT2.out⟩
              | true =>
                rw [hp] at HB
                have HP1 := Lib.hid hp
                cases k with
                | zero =>
                  have HN : Hid (∀ j (hj : j < l.length), j < 1 → pre r.key l[j] = true ∧ (∀ i (hi : i < l.length), j = i + 1 → l[i] < l[j])) := Lib.hid (fun j hj h => by
                    obtain rfl : j = 0 := by omega
                    exact ⟨HP1.out, fun i _ e => absurd e (by omega)⟩)
                  have HC0 : Hid (∀ X, Keeps [] wr X → X.cell? ⟨q, 1, none⟩ = some (sv r.key) ∧ X.cell? ⟨q, 3, none⟩ = some (.slice (some ⟨bl, off, none⟩) l.length p4) ∧ X.cell? ⟨bl, off, none⟩ = some (sv l[0])) := Lib.hid (fun X hk => ⟨(HSS.out X (KR.out.trans hk (by simp))).2.2.2.2.2.2.2, (HQ3.out X (KR.out.trans hk (by simp))).2, HCC.out X hk 0 hlt⟩)
                  obtain ⟨y, hy⟩ : ∃ y, l[0] = y := ⟨_, rfl⟩
                  rw [hy] at HB HC0
                  clear hp hc HP1 c0 hy
                  go_upto_region 11 with fail
                  refine no11z_any wr q bl off l.length p4 r.key y _ HC0.out HB.out (by omega) _ _ _ _ _ _ _ _ _ _ _ _ _ _ _ _ _ _ _ _ _ _ _ _ _ _ _ _ _ _ _ _ _ _ _ _ _ _ _ _ _ _ _ _ _ _ _ _ _ _ _ _ _ _ _ _ _ _ _ _ _ _ _ _ _ _ _ _ _ _ _ _ _ _ _ _ _ _ _ _ _ _ _ _ _ _ _ _ _ _ _ _ _ _ _ _ _ _ _ _ _ _ _ _ _ _ _ _ _ _ _ _ _ ?_
                  intro v77 v78 v79 v80 v81 v82 v83 v84 v85 v86 v87 v88 v89 v90 v91 v92 v93 v94 v95 v96 v97 v98 v99 v100 v101 v102 v103 X2 hk2
                  have KN := Lib.hid (KR.out.trans hk2 (by simp))
                  clear hk2 HALL
                  go_wp2_with fail
                  exact ⟨⟨1, by omega, rfl, KN.out, HN.out⟩, by simp only [intOf]; omega⟩
                | succ k =>
                  have hcmp := fun W => run_leqS l[k + 1] l[k] W
                  have HF : Hid (decide (l[k + 1] ≤ l[k]) = true → E = C) := Lib.hid (fun h => HPF.out (proper_false2 hlt (of_decide_eq_true h)))
                  have HN : Hid (decide (l[k + 1] ≤ l[k]) = false → ∀ j (hj : j < l.length), j < k + 2 → pre r.key l[j] = true ∧ (∀ i (hi : i < l.length), j = i + 1 → l[i] < l[j])) := Lib.hid (fun h j hj h2 => by
                    by_cases hjk : j < k + 1
                    · exact HALL.out j hj hjk
                    · obtain rfl : j = k + 1 := by omega
                      refine ⟨HP1.out, fun i hi e => ?_⟩
                      obtain rfl : i = k := by omega
                      exact List.not_le.1 (of_decide_eq_false h))
                  have HC0 : Hid (∀ X, Keeps [] wr X → X.cell? ⟨q, 1, none⟩ = some (sv r.key) ∧ X.cell? ⟨q, 3, none⟩ = some (.slice (some ⟨bl, off, none⟩) l.length p4) ∧ X.cell? ⟨bl, off + (k + 1), none⟩ = some (sv l[k + 1]) ∧ X.cell? ⟨bl, off + k, none⟩ = some (sv l[k])) := Lib.hid (fun X hk => ⟨(HSS.out X (KR.out.trans hk (by simp))).2.2.2.2.2.2.2, (HQ3.out X (KR.out.trans hk (by simp))).2, HCC.out X hk (k + 1) hlt, HCC.out X hk k (by omega)⟩)
                  generalize decide (l[k + 1] ≤ l[k]) = t at hcmp HF HN
                  have hi5 : IntKind.i64.wrap (((k + 1 : Nat) : Int) - 1) = (k : Int) := (IntWalk.i64_in _ (by omega)).trans (by omega)
                  have hi6 : max (k : Int) 0 = (k : Int) := by omega
                  obtain ⟨y, hy⟩ : ∃ y, l[k + 1] = y := ⟨_, rfl⟩
                  obtain ⟨z, hz⟩ : ∃ z, l[k] = z := ⟨_, rfl⟩
                  rw [hy] at HB HC0 hcmp
                  rw [hz] at HC0 hcmp
                  have HCM := Lib.hid hcmp
                  have H5 := Lib.hid hi5
                  have H6 := Lib.hid hi6
                  clear hp hc HP1 c0 hy hz hcmp hi5 hi6
                  obtain ⟨k1, hkk1⟩ : ∃ k1, k + 1 = k1 := ⟨_, rfl⟩
                  rw [hkk1] at HC0 H5 j0 j1 hlt ⊢
                  have hk1 : k1 = k + 1 := hkk1.symm
                  have HK11 := Lib.hid hk1
                  have jk0 : (0 : Int) ≤ (k : Int) := by omega
                  have jk1 : (k : Int) < (l.length : Int) := by omega
                  have jk2 : 0 < k1 := by omega
                  clear hkk1 hk1
                  go_upto_region 11 with fail
                  refine no11s_any wr q bl off l.length p4 k r.key y k1 z t _ HC0.out HB.out j0 j1 jk0 jk1 jk2 H5.out H6.out HCM.out _ _ _ _ _ _ _ _ _ _ _ _ _ _ _ _ _ _ _ _ _ _ _ _ _ _ _ _ _ _ _ _ _ _ _ _ _ _ _ _ _ _ _ _ _ _ _ _ _ _ _ _ _ _ _ _ _ _ _ _ _ _ _ _ _ _ _ _ _ _ _ _ _ _ _ _ _ _ _ _ _ _ _ _ _ _ _ _ _ _ _ _ _ _ _ _ _ _ _ _ _ _ _ _ _ _ _ _ _ _ _ _ _ ?_
                  intro v77 v78 v79 v80 v81 v82 v83 v84 v85 v86 v87 v88 v89 v90 v91 v92 v93 v94 v95 v96 v97 v98 v99 v100 v101 v102 v103 X2 hk2
                  have KN := Lib.hid (KR.out.trans hk2 (by simp))
                  clear hk2
                  cases t with
                  | true =>
                    have HT2 : Hid (RTurn w X2 d F G E) := Lib.hid (by rw [HF.out rfl]; exact HS.out X2 KN.out)
                    go_wp2_with fail
                    refine bodyPost_ret (results_none rfl _ _ _) rfl ?_
                    exact ⟨rfl, by rw [HEE.out]; exact HT2.out⟩
                  | false =>
                    have HN2 := Lib.hid (HN.out rfl)
                    have hk12 := HK11.out
                    subst hk12
                    clear HN HF HALL
                    go_wp2_with fail
                    exact ⟨⟨k + 2, by omega, by rw [show ((k + 2 : Nat) : Int) = (k : Int) + 1 + 1 by omega], KN.out, HN2.out⟩, by simp only [intOf]; omega⟩
            · obtain rfl : k = l.length := by omega
              have j1 : ¬ ((l.length : Int) < (l.length : Int)) := by omega
              have HT := Lib.hid (HPT.out (fun j hj => HALL.out j hj hj))
              clear HALL
              go_upto_region 12 with fail
              refine no12_any wr d q j l.length p4 A4 r.key l (fun w' => RTurn w w' d F G E) _ hml (by omega) (fun X hk => ⟨(HSS.out X (KR.out.trans hk (by simp))).2.2.2.2.2.2.2, (HQ3.out X (KR.out.trans hk (by simp))).2⟩) (fun X hk => (HLA.out.keep (KR.out.trans hk (by simp))).reads) (fun X A c hk ho hf => ?_) _ _ _ _ _ _ _ _ _ _ _ _ _ _ _ _ _ _ _ _ _ _ _ _ _ _ _ _ _ _ _ _ _ _ _ _ _ _ _ _ _ _ _ _ _ _ _ _ _ _ _ _ _ _ _ _ _ _ _ _ _ _ _ _ _ _ _ _ _ _ _ _ _ _ _ _ _ _ _ _ _ _ _ _ _ _ _ _ _ _ _ _ _ _ _ _ _ _ _ _ _ _ _ _ _ _ _ _ _ _ _ _ ?_
              · obtain ⟨hkk, hxx⟩ := HAT.out
                rw [List.nil_append] at ho
                have hs := KR.out.size
                have hR4 : Rf X d F (fp (.slice A l.length c) ++ G) C := (HH.out.keep0 (KR.out.trans hk (by simp))).addG (own_lts ho) (fun g hg h' => by have := HFL.out g h'; have := hf g hg; omega)
                have CN := rNote_any hR4 hR0 hl hkk hxx hrl (.keys r.key l) A c ho (fun g hg => List.mem_append_left _ hg)
                rw [HZI.out] at CN
                refine CN.mono ?_
                rintro e w' ⟨rfl, ht⟩
                refine ⟨rfl, ?_⟩
                rw [HT.out]
                exact (ht.from_ (KR.out.trans hk (by simp)) (fun g hg => (List.mem_append.1 hg).elim (fun h => .inr (by have := hf g h; omega)) .inl)).after KW.out
              intro v105 v106 v107 v108 v109 v110 v111 v112 v113 v114 X2 hq2
              have HT2 := Lib.hid hq2
              clear hq2
              go_wp2_with fail
              go_end0
              exact ⟨rfl, by rw [HEE.out]; exact HT2.out⟩
        · have hrf : decide (rx < 0) = false := decide_eq_false (by rw [← hrx, h1]; omega)
          rw [hrf]
          have HE : Hid (noteP C zi r = C) := Lib.hid (by rw [HNN.out, if_neg (by simp [h2])])
          clear h1 h2 hrx HNN hrf hqq
          go_wp2_with fail
          go_end0
          exact ⟨rfl, by rw [HE.out]; exact HS.out _ KX.out⟩
      · have HK1 : Hid ((r.kind == 1) = false) := Lib.hid (by simpa using hk1)
        have e0 : noteP C zi r = C := by rw [HN0.out, if_neg hk, if_neg hk1]
        rw [e0]
        have KX : Hid (Keeps [] W W) := Lib.hid (Keeps.refl _ _)
        clear hk HN0 hk1 e0
        go_enter Tryz.func53, Tryz.ntmps53
        go_wp2_with fail
        try rw [hWa]
        refine CP.out.mono ?_
        rintro e w1 ⟨rfl, rfl⟩
        clear CP hWa
        go_upto_region 7 with fail
        refine no7t_any w1 d q j r.kind _ ((HSS.out _ KX.out).2.2.2.2.2.2.1) HK1.out _ _ _ _ _ _ _ _ _ _ _ _ _ _ _ _ _ _ _ _ _ _ _ _ _ _ _ _ _ _ _ _ _ _ _ _ _ _ _ _ _ _ _ _ _ _ _ _ _ _ _ _ _ _ _ _ _ _ _ _ _ _ _ _ _ _ _ _ _ _ _ _ _ _ _ _ _ _ _ _ _ _ _ _ _ _ _ _ _ _ _ _ _ _ _ _ _ _ _ _ _ _ _ _ _ _ _ _ _ _ _ _ ?_
        intro v54 v55 v56 v57 v58 v59 v60 v61 v62 v63 v64 v65 v66 v67 v68 nq
        have KE := Lib.hid ((Keeps.refl [] w1).drewN nq)
        go_wp2_with fail
        go_end0
        exact ⟨rfl, HS.out _ (KX.out.trans KE.out (by simp))⟩
set_option maxRecDepth 100000 in
set_option maxHeartbeats 1600000 in
theorem rAssume_any {P : List Str} {w : World} {d : Nat} {F G : List Nat} {C : St} (h : Rf w d F G C) (hW : WF P C) (hP : PoolOk P) (hl : C.length ≤ 1000000) (i : Int) (k v : Str) :
    Calls Tryz.prog 52 #[.pointer (some ⟨d, 0, none⟩), .int .i64 i, sv k, sv v] w fun e w' => e = .returned (.tuple #[]) ∧ RTurn w w' d F G (noteP C i ⟨0, k, v, []⟩) := by
  have CN := Lib.hid (rNoteOp_any h hW hP hl i ⟨0, k, v, []⟩ none 0 ⟨fun h => absurd h (by simp), by simp⟩)
  obtain ⟨E, hE⟩ : ∃ E, noteP C i ⟨0, k, v, []⟩ = E := ⟨_, rfl⟩
  rw [hE] at CN ⊢
  clear h hE
  go_enter Tryz.func52, Tryz.ntmps52
  go_wp2_with fail
  refine CN.out.mono ?_
  rintro e w1 ⟨rfl, ht⟩
  have HT := Lib.hid ht
  clear ht
  go_wp2_with fail
  go_end0
  exact ⟨rfl, HT.out⟩
end Go.Proofs.YtbllmpcpfmlemaaGreat
