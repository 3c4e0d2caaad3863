/- The texts W46, W47 in one. -/
import Derived.Test.YtbllmpcpfmlemaaMW
namespace Go.Proofs.Ytbllmpcpfmlemaa
open Go.RowKit

theorem info3w : (Try.prog.info? 3).map (fun i => (i.zero, i.size, i.bytes)) = some (some (.int .i64 0), 1, 8) := by kernel_rfl
theorem zs_one (l : List Int) : ∀ u ∈ zs l, u.oneCell' = true := by
  intro u hu
  simp only [zs, List.mem_map] at hu
  obtain ⟨z, _, rfl⟩ := hu
  rfl
set_option maxRecDepth 1000000 in
set_option maxHeartbeats 12800000 in
theorem sees_law {a a2 w : World} {c d n : Nat} {C : St} {P : List Str} (hc : Own0 a w c C) (hd : Own0 a2 w d C) (hf : Fit P n C) (hn : n ≤ 100000) (hP : PoolOk P) {i : Int} (hi : I64 i) (A : Option Addr) (L : List Oq) (cc : Nat) (hA : AtO w A L) (hL : OkL P L) :
    Calls Try.prog 22 #[.pointer (some ⟨c, 0, none⟩), .pointer (some ⟨d, 0, none⟩), .int .i64 i, .slice A L.length cc] w fun e w' => e = .returned (.bool true) ∧ Keeps [] w w' := by
  have HC := Lib.hid hc
  have HD := Lib.hid hd
  have HF := Lib.hid hf
  have HN := Lib.hid hn
  have HP := Lib.hid hP
  have HI := Lib.hid hi
  have HL := Lib.hid hA
  have HOK := Lib.hid hL
  have mL := hA.mx
  clear hc hd hf hn hP hi hA hL
  have hlv := live_len (C := C)
  have hlen := HF.out.len
  obtain ⟨N, hN⟩ : ∃ N, (liveP C).length = N := ⟨_, rfl⟩
  have hNm : N ≤ 100001 := by have := HN.out; omega
  have HI3 := Lib.hid info3w
  go_enter Try.func22, Try.ntmps22
  go_wp2_with fail
  refine (live_sta (Sta.of HC.out) HF.out HN.out).mono ?_
  rintro e w1 ⟨⟨v1, rfl, o1, f1⟩, k1⟩
  obtain ⟨B1, d1, rfl, -, -, -⟩ := own_shape o1
  have F1 : Hid (∀ g ∈ fp (.slice B1 (liveP C).length d1), w.heap.size ≤ g) := Lib.hid f1
  clear f1
  have hzi : ∀ z ∈ liveP C ++ [0], I64 z := by
    intro z hz
    rcases List.mem_append.1 hz with hz | hz
    · obtain ⟨x, hx⟩ := has_find ((live_ok HF.out.wf.tree).2 z |>.1 hz).2
      obtain ⟨h1, h2⟩ := find_mem hx
      have := HF.out.wf.ok x h1
      exact ⟨by rw [← h2]; exact this.id1, by rw [← h2]; exact this.id2⟩
    · rw [List.mem_singleton.1 hz]; exact ⟨by omega, by omega⟩
  have HZI := Lib.hid hzi
  rw [hN] at o1 hlv F1
  have e1 : zs (liveP C) ++ [.int .i64 0] = zs (liveP C ++ [0]) := by simp [zs]
  have e2 : (liveP C ++ [0]).length = N + 1 := by simp [hN]
  obtain ⟨Q, hQ⟩ : ∃ Q, liveP C ++ [0] = Q := ⟨_, rfl⟩
  rw [hQ] at e1 e2 HZI
  have E1 := Lib.hid e1
  have E2 := Lib.hid e2
  have O1 := Lib.hid (own_keep o1 ((Keeps.refl [] w1).alloc (.cells #[.int .i64 0] 3)) (by simp))
  have K1 := Lib.hid (k1.alloc (.cells #[.int .i64 0] 3))
  have RB := Lib.hid (reads_blk (Blk.new w1 3 #[.int .i64 0]) (xs := [.int .i64 0]) (size := 1) rfl rfl)
  rw [hN]
  clear o1 k1 hzi hQ e1 e2 hN hlv hlen
  go_wp2_with (at_builtin; refine wpList_app _ rfl (.tmp 15) (.tmp 16) _ rfl 3 (.int .i64 0) 1 8 Try.underlying36 HI3.out rfl (by omega) (.slice B1 N d1) _ _ rfl O1.out _ _ _ _ [.int .i64 0] rfl RB.out (zs_one [0]) (by unfold maxLen; omega) (by omega) ?_)
  intro v2 w2 o2 k2 _
  have K2 : Hid (Keeps [] w w2) := Lib.hid (K1.out.trans k2 (fun g hg => .inr (F1.out g hg)))
  rw [E1.out, ← E2.out] at o2
  obtain ⟨B2, d2, rfl, -, -, -⟩ := own_shape o2
  have hq1 := E2.out
  obtain ⟨m, hm⟩ : ∃ m, Q.length = m := ⟨_, rfl⟩
  have hmm : m ≤ 100002 := by omega
  have HQ := Lib.hid (AtZ.of_own o2 (by omega))
  rw [hm]
  have HM := Lib.hid hm
  clear o2 k2 K1 O1 RB E1 E2 F1 HI3 hq1 hm hNm
  go_wp2_with fail
  go_loopw [10, 11, 12, 13] (fun iv _ _ _ wr => ∃ k : Nat, k ≤ L.length ∧ iv = .int .i64 k ∧ Keeps [] w2 wr) (fun iv _ _ _ _ => L.length - (intOf iv).toNat)
  case atStart => exact ⟨0, by omega, rfl, Keeps.refl _ _⟩
  case round =>
    obtain ⟨k, hk, rfl, hkr⟩ := hrel
    have KR := Lib.hid hkr
    clear hkr
    by_cases hlt : k < L.length
    · have i0 : (0 : Int) ≤ (k : Int) := by omega
      have i1 : (k : Int) < (L.length : Int) := by omega
      go_wp2_with fail
      obtain ⟨w3, hw3⟩ : ∃ w3, w3 = wr := ⟨_, rfl⟩
      subst hw3
      go_loopw [11, 12, 13] (fun iv _ _ wr => ∃ j : Nat, j ≤ m ∧ iv = .int .i64 j ∧ Keeps [] w2 wr) (fun iv _ _ _ => m - (intOf iv).toNat)
      case atStart => exact ⟨0, by omega, rfl, KR.out⟩
      case round =>
        obtain ⟨j, hj, rfl, hkr⟩ := hrel
        clear KR
        have KR := Lib.hid hkr
        clear hkr
        by_cases hjt : j < m
        · have j0 : (0 : Int) ≤ (j : Int) := by omega
          have j1 : (j : Int) < (m : Int) := by omega
          have hjq : j < Q.length := by rw [HM.out]; exact hjt
          obtain ⟨z, hz⟩ : ∃ z, Q[j] = z := ⟨_, rfl⟩
          have HZ : Hid (I64 z) := Lib.hid (by rw [← hz]; exact HZI.out _ (List.getElem_mem hjq))
          obtain ⟨zb, zo, hBB, hzb, hzc⟩ := (HQ.out.keep KR.out).at_ (by omega)
          have zc := hzc j hjq
          rw [hz] at zc
          obtain ⟨bl, off, hAA, -, -, -, c3, -, -, -, -, -⟩ := (HL.out.keep (K2.out.trans KR.out (by simp))).get hlt
          have c3l : bl < wr.heap.size := cell_lt c3
          have HX := Lib.hid (HOK.out _ (List.getElem_mem hlt))
          subst hBB hAA
          obtain ⟨ky, hky⟩ : ∃ ky, L[k].x.key = ky := ⟨_, rfl⟩
          rw [hky] at c3
          have HKY : Hid (ky ∈ P) := Lib.hid (by rw [← hky]; exact HX.out.1.k)
          have CZ : Hid (∀ W, Keeps [] wr W → W.cell? ⟨zb, zo + j, none⟩ = some (.int .i64 z)) := Lib.hid (fun W hk => (hk.cell (p := ⟨zb, zo + j, none⟩) hzb (by simp)).trans zc)
          have CK : Hid (∀ W, Keeps [] wr W → W.cell? ⟨bl, off + k * 9 + 3, none⟩ = some (sv ky)) := Lib.hid (fun W hk => (hk.cell (p := ⟨bl, off + k * 9 + 3, none⟩) c3l (by simp)).trans c3)
          clear hzc hz zc c3 c3l hky HX hzb
          go_wp2_with fail
          refine (pre_copy (HC.out.keep0 (K2.out.trans KR.out (by simp))) (HD.out.keep0 (K2.out.trans KR.out (by simp))) HF.out.wf HP.out (HF.out.hl HN.out)).mono ?_
          rintro e w4 ⟨x, rfl, hp⟩
          have PR := Lib.hid hp
          clear hp
          go_wp2_with fail
          refine (PR.out.copy HF.out.wf HP.out (HF.out.hl HN.out)).mono ?_
          rintro e w5 ⟨y, rfl, hd⟩
          have D0 := Lib.hid hd
          clear hd PR
          go_wp2_with fail
          refine sees12_any w5 wr x y bl off zb zo L.length cc m d2 k j n z ky P C _ _ _ _ _ _ D0.out HF.out HP.out HZ.out HKY.out rfl rfl rfl rfl rfl (fun W hk => ⟨CZ.out W hk, CK.out W hk⟩) i0 i1 j0 j1 _ _ _ _ _ _ _ _ _ _ _ _ _ _ _ _ _ _ _ _ _ _ _ _ _ _ _ _ _ _ _ _ _ _ _ _ _ _ _ _ _ _ _ _ _ _ _ _ _ _ _ _ _ _ _ _ _ _ _ _ _ _ _ _ _ _ _ _ _ _ _ _ _ _ _ _ _ _ _ _ _ _ _ _ _ _ _ _ _ _ _ _ _ _ _ _ _ _ _ _ _ _ _ _ _ _ _ _ _ _ _ _ _ _ _ _ _ _ _ _ _ _ _ _ ?_
          intro v40 v41 v42 v43 v44 v45 v46 v47 v48 v49 v50 v51 v52 v53 v54 v55 v56 v57 v58 v59 v60 v61 v62 v63 v64 v65 v66 v67 v68 v69 v70 v71 v72 v73 v74 v75 v76 v77 v78 v79 v80 v81 v82 v83 v84 v85 v86 v87 v88 v89 v90 v91 v92 v93 v94 v95 v96 v97 v98 v99 v100 v101 v102 v103 v104 v105 v106 v107 v108 v109 v110 v111 v112 W hk
          have KN := Lib.hid (KR.out.trans hk (by simp))
          clear hk CZ CK
          go_wp2_with fail
          exact ⟨⟨j + 1, by omega, rfl, KN.out⟩, by simp only [intOf]; omega⟩
        · obtain rfl : j = m := by omega
          have j1 : ¬ ((j : Int) < (j : Int)) := by omega
          go_wp2_with fail
          exact ⟨⟨k + 1, by omega, rfl, KR.out⟩, by simp only [intOf]; omega⟩
    · obtain rfl : k = L.length := by omega
      have i1 : ¬ ((L.length : Int) < (L.length : Int)) := by omega
      have HW := Lib.hid (K2.out.trans KR.out (by simp))
      go_wp2_with fail
      refine (writes_sta (Sta.of (HC.out.keep0 HW.out)) HF.out HP.out HI.out).mono ?_
      rintro e w3 ⟨⟨v3, rfl, o3, -⟩, k3⟩
      obtain ⟨B3, d3, rfl, -, -, -⟩ := own_shape o3
      have HW3 := Lib.hid (HW.out.trans k3 (by simp))
      have O3 := Lib.hid o3
      clear o3 k3
      go_wp2_with fail
      refine (writes_sta (Sta.of (HD.out.keep0 HW3.out)) HF.out HP.out HI.out).mono ?_
      rintro e w4 ⟨⟨v4, rfl, o4, -⟩, k4⟩
      obtain ⟨B4, d4, rfl, -, -, -⟩ := own_shape o4
      have hwl := wrP_len HF.out.wf HP.out i
      have CS := pairs_any w4 B3 B4 (wrP C i) (wrP C i) d3 d4 (AtP.of_own (own_keep O3.out k4 (by simp)) hwl) (AtP.of_own o4 hwl)
      rw [decide_eq_true (rfl : wrP C i = wrP C i)] at CS
      have CS := Lib.hid CS
      have HW4 := Lib.hid (HW3.out.trans k4 (by simp))
      clear o4 k4 O3 hwl
      go_wp2_with fail
      refine CS.out.mono ?_
      rintro e w5 ⟨rfl, k5⟩
      have HW5 := Lib.hid (HW4.out.trans k5 (by simp))
      clear k5 CS
      obtain ⟨V, hV⟩ : ∃ V, validP C i = V := ⟨_, rfl⟩
      have CV := valid_sta (Sta.of (HC.out.keep0 HW5.out)) HF.out HP.out HI.out
      rw [hV] at CV
      have CV := Lib.hid CV
      go_wp2_with fail
      refine CV.out.mono ?_
      rintro e w6 ⟨rfl, k6⟩
      have HW6 := Lib.hid (HW5.out.trans k6 (by simp))
      clear k6 CV
      have CV := valid_sta (Sta.of (HD.out.keep0 HW6.out)) HF.out HP.out HI.out
      rw [hV] at CV
      have CV := Lib.hid CV
      clear hV
      cases V with
      | false =>
        go_wp2_with fail
        refine CV.out.mono ?_
        rintro e w7 ⟨rfl, k7⟩
        go_wp2_with fail
        go_ret
        exact ⟨rfl, HW6.out.trans k7 (by simp)⟩
      | true =>
        go_wp2_with fail
        refine CV.out.mono ?_
        rintro e w7 ⟨rfl, k7⟩
        go_wp2_with fail
        go_ret
        exact ⟨rfl, HW6.out.trans k7 (by simp)⟩
end Go.Proofs.Ytbllmpcpfmlemaa
namespace Go.Proofs.Ytbllmpcpfmlemaa
open Go.RowKit

/-- The trial is gone, or got these answers. -/
def Trial (P : List Str) (C : St) (i : Int) (l : List Opn) (ans : List Ans) (p : Int) : Prop := has C i = false ∨ ∃ X, find C i = some X ∧ X.par = p ∧ Told P X l ans
/-- What the loop carries. -/
structure SeqI (P : List Str) (i p : Int) (ms : List Opn) (k n : Nat) (C : St) (gs : List Str) (qs : List (List Str)) (rs : List Value) : Prop where
  ans : ∃ ans : List Ans, gs = ans.map (·.1) ∧ qs = ans.map (·.2.1) ∧ rs.length = ans.length ∧ ans.length = min k ms.length ∧ Trial P C i (ms.take k) ans p
  nk : NoKids C i
  fit : Fit P n C
section
variable {P : List Str} {i p : Int} {ms : List Opn} {k n : Nat} {C : St} {gs : List Str} {qs : List (List Str)} {rs : List Value}
theorem SeqI.len (h : SeqI P i p ms k n C gs qs rs) : gs.length = rs.length ∧ qs.length = rs.length ∧ rs.length = min k ms.length := by
  obtain ⟨ans, rfl, rfl, h3, h4, _⟩ := h.ans
  simp [h3, h4]
theorem SeqI.mono {m : Nat} (h : SeqI P i p ms k n C gs qs rs) (hm : n ≤ m) : SeqI P i p ms k m C gs qs rs := ⟨h.ans, h.nk, h.fit.mono hm⟩
theorem asP_pool (x : Opn) (i : Int) : pool (asP x i) = pool x := rfl
theorem SeqI.mine (h : SeqI P i p ms k n C gs qs rs) (h0 : i ≠ 0) (hk : k < ms.length) (hx : OkO P ms[k]) (v : Value) :
    SeqI P i p ms (k + 1) (n + 1) (doP C (asP ms[k] i)).2 (gs ++ [(doP C (asP ms[k] i)).1.1]) (qs ++ [(doP C (asP ms[k] i)).1.2.1]) (rs ++ [v]) := by
  obtain ⟨ans, rfl, rfl, h3, h4, h5⟩ := h.ans
  have e1 : ms.take (k + 1) = ms.take k ++ [ms[k]] := List.take_succ_eq_append_getElem hk
  have e2 : (ms.take k).length = k := by rw [List.length_take]; omega
  refine ⟨⟨ans ++ [(doP C (asP ms[k] i)).1], by simp, by simp, by simp [h3], by simp [h4]; omega, ?_⟩, noKids_as h.nk _, h.fit.do_ (x := asP ms[k] i) hx.p hx.n.2 hx.v⟩
  rcases h5 with h5 | ⟨X, h5, h6, h7⟩
  · exact .inl (gone_as h5 _)
  · obtain ⟨X', k1, k2, k3⟩ := told_step h.fit.wf h5 h0 h7 (by rw [e2, h4]; omega) ms[k]
    exact .inr ⟨X', k1, k2.trans h6, by rw [e1]; exact k3⟩
theorem SeqI.skip (h : SeqI P i p ms k n C gs qs rs) (hk : ms.length ≤ k) : SeqI P i p ms (k + 1) n C gs qs rs := by
  obtain ⟨ans, h1, h2, h3, h4, h5⟩ := h.ans
  refine ⟨⟨ans, h1, h2, h3, by omega, ?_⟩, h.nk, h.fit⟩
  rw [List.take_of_length_le (by omega)] at h5
  rw [List.take_of_length_le (by omega)]
  exact h5
theorem SeqI.other (h : SeqI P i p ms k n C gs qs rs) {x : Opn} (hx : OkO P x) (hw : x.who ≠ i) (hn : x.n ≠ i) : SeqI P i p ms k (n + 1) (doP C x).2 gs qs rs := by
  obtain ⟨ans, h1, h2, h3, h4, h5⟩ := h.ans
  have ho := Off.do_ h.fit.wf.tree h.nk hw hn
  refine ⟨⟨ans, h1, h2, h3, h4, ?_⟩, ho.k h.nk, h.fit.do_ hx.p hx.n.2 hx.v⟩
  rcases h5 with h5 | ⟨X, h5, h6, h7⟩
  · exact .inl (gone_do h.fit.wf.tree h5 hn)
  · rcases ho.f with hf | hf
    · exact .inr ⟨X, hf.trans h5, h6, h7⟩
    · exact .inl hf
theorem begin_ok (h : (beginP C i p).1 = 0) (hi : 1 ≤ i) : (beginP C i p).2 = ⟨i, p, [], [], []⟩ :: C ∧ has C i = false ∧ has C p = true := by
  unfold beginP at h ⊢
  rw [if_neg (by omega)] at h ⊢
  cases h1 : has C i with
  | true => rw [h1] at h; simp at h
  | false =>
    rw [h1] at h
    cases h2 : has C p with
    | false => rw [h2] at h; simp at h
    | true => simp
theorem SeqI.start (hf : Fit P n C) (hi : 1 ≤ i) (hm : i ≤ 9223372036854775807) (hb : (beginP C i p).1 = 0) : SeqI P i p ms 0 (n + 1) (beginP C i p).2 [] [] [] := by
  obtain ⟨e, h1, h2⟩ := begin_ok hb hi
  have hw := hf.wf.begin_ (i := i) (p := p) hm
  have hne : p ≠ i := by rintro rfl; rw [h2] at h1; cases h1
  rw [e] at hw ⊢
  refine ⟨⟨[], rfl, rfl, rfl, by simp, .inr ⟨⟨i, p, [], [], []⟩, by rw [find_cons, if_pos rfl], rfl, Told.start P i p⟩⟩, ?_, hw, ?_, ?_⟩
  · intro x hx h0
    rcases List.mem_cons.1 hx with rfl | hx
    · exact hne
    · exact noKids_new hf.wf.tree h1 x hx h0
  · have := hf.len
    simp only [List.length_cons]
    omega
  · have := hf.lg
    rw [lgSize_cons]
    simp only [lgOne, lgLen, List.map_nil, List.sum_nil]
    omega
/-- The end of the loop: the trial's answers are its parent's. -/
theorem SeqI.end_ (h : SeqI P i p ms k n C gs qs rs) (h0 : i ≠ 0) (hk : ms.length ≤ k) (hv : validP C i = true) :
    (commitP C i).1 = 0 ∧ abortP C i = dropP C i ∧ Fit P n (dropP C i) ∧ stAt (dropP C i) p ms = (commitP C i).2 ∧ validP (commitP C i).2 i = false ∧
      ∀ j (h1 : j < ms.length) (h2 : j < gs.length) (h3 : j < qs.length), (doP (stAt (dropP C i) p (ms.take j)) (asP ms[j] p)).1.1 = gs[j] ∧ (doP (stAt (dropP C i) p (ms.take j)) (asP ms[j] p)).1.2.1 = qs[j] := by
  obtain ⟨ans, rfl, rfl, h3, h4, h5⟩ := h.ans
  rcases h5 with h5 | ⟨X, h5, rfl, h7⟩
  · unfold validP at hv
    rw [find_none.2 h5] at hv
    cases hv
  rw [List.take_of_length_le (by omega)] at h7
  obtain ⟨e1, e2, e3, e4, e5⟩ := told_end h.fit.wf h5 h0 h.nk h7 hv
  refine ⟨e1, e2, ⟨e3, ?_, ?_⟩, e4, ?_, fun j h1 h2 h3' => ?_⟩
  · have := h.fit.len
    have : (dropP C i).length ≤ C.length := List.length_filter_le _ _
    omega
  · have := h.fit.lg
    have : lgSize (dropP C i) ≤ lgSize C := lgSize_filter _ _
    omega
  · have hk0 : kids C i = 0 := noKids_iff.2 h.nk
    have hg : has (commitP C i).2 i = false := by
      unfold commitP
      rw [h5]
      dsimp only
      rw [if_neg h0, if_neg (by omega)]
      exact drop_gone _ _
    unfold validP
    rw [find_none.2 hg]
  · have hj : j < ans.length := by simpa using h2
    have := e5 j ms[j] ans[j] (by simp [h1]) (by simp [hj])
    rw [this]
    simp
theorem fit_st {D : St} (hf : Fit P n D) (p : Int) (hms : ∀ x ∈ ms, OkO P x) (j : Nat) (hj : j ≤ ms.length) : Fit P (n + j) (stAt D p (ms.take j)) := by
  induction j with
  | zero => exact hf
  | succ j ih =>
    have h1 := ih (by omega)
    have hx := hms ms[j] (List.getElem_mem (by omega))
    rw [List.take_succ_eq_append_getElem (by omega), stAt_snoc]
    exact h1.do_ (x := asP ms[j] p) hx.p hx.n.2 hx.v
theorem OkO.as {x : Opn} (h : OkO P x) (hi : I64 i) : OkO P (asP x i) := by
  refine ⟨?_, hi, h.n, h.kd, h.p, h.v⟩
  unfold asP
  dsimp only
  split
  · exact ⟨by omega, by omega⟩
  · exact h.dw
end
/-- The answers written down, read only. -/
structure Wrt (W : World) (gs : List Str) (qs : List (List Str)) (vg vl : Value) (rs : List Value) (U : List Nat) : Prop where
  got : W.ownsRow 0 9 1 vg gs.length (vs gs)
  gU : ∀ g ∈ fp vg, g ∈ U
  lst : W.ownsRow 0 27 1 vl qs.length rs
  lU : ∀ g ∈ fp vl, g ∈ U
  row : ∀ j (h : j < qs.length) (h2 : j < rs.length), W.ownsRow 0 9 1 rs[j] qs[j].length (vs qs[j]) ∧ ∀ g ∈ fp rs[j], g ∈ U
theorem Rec.wrt {a W : World} {c : Nat} {C : St} {gs : List Str} {qs : List (List Str)} {vg vl : Value} {rs : List Value} {T : List Nat} (h : Rec a W c C gs qs vg vl rs T) : Wrt W gs qs vg vl rs ((fp vg ++ fp vl) ++ T) :=
  ⟨h.got, fun g hg => by simp [hg], h.lst, fun g hg => by simp [hg], fun j h1 h2 => ⟨(h.row j h1 h2).1, fun g hg => List.mem_append_right _ ((h.row j h1 h2).2 g hg)⟩⟩
theorem Wrt.kept {W W' : World} {gs : List Str} {qs : List (List Str)} {vg vl : Value} {rs : List Value} {U : List Nat} (h : Wrt W gs qs vg vl rs U) (hk : Kept U W W') : Wrt W' gs qs vg vl rs U :=
  ⟨hk.own h.got h.gU, h.gU, hk.own h.lst h.lU, h.lU, fun j h1 h2 => ⟨hk.own (h.row j h1 h2).1 (h.row j h1 h2).2, (h.row j h1 h2).2⟩⟩
theorem Wrt.keep0 {W W' : World} {gs : List Str} {qs : List (List Str)} {vg vl : Value} {rs : List Value} {U : List Nat} (h : Wrt W gs qs vg vl rs U) (hk : Keeps [] W W') : Wrt W' gs qs vg vl rs U := h.kept ⟨[], hk, by simp⟩
theorem do_len {P : List Str} {C : St} (hW : WF P C) (hP : PoolOk P) (x : Opn) (hx : x.key ∈ P) : (doP C x).1.2.1.length ≤ 1000000 := by
  unfold doP
  by_cases h4 : doing x < 4
  · rw [if_pos h4]; simp
  rw [if_neg h4]
  by_cases h6 : doing x = 6
  · rw [if_pos h6]; exact seesKeys_len (hW.askK _ hx) hP _ _
  rw [if_neg h6]
  repeat' split
  all_goals simp
theorem duo_do {a W : World} {c d n : Nat} {C D : St} {T : List Nat} {P : List Str} (h : Duo a W c d C D T) (hf : Fit P n C) (hn : n ≤ 100000) (hP : PoolOk P) (x : Opn) (hx : OkO P x) (A : Option Addr) (cc : Nat) (hA : AtS W A x.r.list) {s : Str} {q : List Str} {C1 : St} (hs : (doP C x).1.1 = s) (hq : (doP C x).1.2.1 = q) (h1 : (doP C x).2 = C1) :
    Calls Try.prog 8 #[.pointer (some ⟨c, 0, none⟩), .agg #[.int .i64 x.dw, .int .i64 x.who, .int .i64 x.n, sv x.key, sv x.val, .int .i64 x.r.kind, sv x.r.key, sv x.r.val, .slice A x.r.list.length cc]] W fun e w' =>
      (∃ v, ∃ z : Int, e = .returned (.tuple #[sv s, v, .int .i64 z]) ∧ w'.ownsRow 0 9 1 v q.length (vs q)) ∧ Duo a w' c d C1 D T ∧ Kept T W w' := by
  subst hs hq h1
  exact h.calls (fun F G hC => by
    refine (do_any hC hf.wf hP (hf.hl hn) (hf.hlg hn) x hx A cc hA).mono ?_
    rintro e w' ⟨v, h1, h2, h3, h4⟩
    exact ⟨⟨v, _, h1, h2⟩, h4⟩)
theorem at_own {W : World} {A : Option Addr} {e n c : Nat} {xs : List Value} (h : W.ownsRow 0 e 1 (.slice A n c) n xs) (h0 : 0 < n) : ∃ b off, A = some ⟨b, off, none⟩ ∧ ∀ (k : Nat) (u : Value), xs[k]? = some u → W.cell? ⟨b, off + k, none⟩ = some u := by
  obtain ⟨A', c', hv, -, -, hA⟩ := own_shape h
  obtain ⟨g, hg⟩ := hA h0
  obtain ⟨rfl, -, rfl⟩ : A = A' ∧ n = n ∧ c = c' := by injection hv with h1 h2 h3; exact ⟨h1, rfl, h3⟩
  subst hg
  refine ⟨g, 0, rfl, fun k u hu => ?_⟩
  rw [Nat.zero_add]
  exact own_cell h hu
end Go.Proofs.Ytbllmpcpfmlemaa
