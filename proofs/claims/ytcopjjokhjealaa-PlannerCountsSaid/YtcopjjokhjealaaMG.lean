/- The texts P5, W50 in one. -/
import Derived.Test.YtcopjjokhjealaaMF
namespace Go.Proofs.Ytcopjjokhjealaa
open Go.RowKit

/-- Lines without running items go alone. -/
def Quiet : Job → Pl → Pl → List Int → Prop
  | .rem _, _, _, _ => True
  | .cuts ids, s, s', o => (∀ r ∈ s.li, r.l ∉ ids) → o = [] ∧ s'.li = s.li
  | .cut id, s, s', o => (∀ r ∈ s.li, r.l ≠ id) → o = [] ∧ s'.li = s.li
theorem Rm.quiet {j : Job} {s s' : Pl} {o : List Int} (h : Rm j s s' o) : Quiet j s s' o := by
  induction h with
  | rem hk hw h ih => trivial
  | nil => exact fun _ => ⟨rfl, rfl⟩
  | @cons s s1 s2 id ids o1 o2 h1 h2 ih1 ih2 =>
    intro hq
    obtain ⟨rfl, e1⟩ := ih1 (fun r hr e => hq r hr (by simp [e]))
    obtain ⟨rfl, e2⟩ := ih2 (fun r hr e => by rw [e1] at hr; exact hq r hr (by simp [e]))
    exact ⟨rfl, e2.trans e1⟩
  | done h => exact fun _ => ⟨rfl, rfl⟩
  | @step s s1 s2 id k o1 o2 h h1 h2 ih1 ih2 =>
    intro hq
    obtain ⟨hk, he, -⟩ := ixF_spec h
    exact absurd (by simpa using he) (hq _ (List.getElem_mem hk))
theorem kd_ix {L : List Rn} (h : (L.map fun r => (r.l, r.i)).Nodup) {k j : Nat} (hk : k < L.length) (hj : j < L.length) (e : L[k].l = L[j].l ∧ L[k].i = L[j].i) : k = j := by
  have hp := List.pairwise_iff_getElem.1 h
  rcases Nat.lt_trichotomy k j with hlt | rfl | hlt
  · exact absurd (by rw [List.getElem_map, List.getElem_map, e.1, e.2]) (hp k j (by simpa using hk) (by simpa using hj) hlt)
  · rfl
  · exact absurd (by rw [List.getElem_map, List.getElem_map, e.1, e.2]) (hp j k (by simpa using hj) (by simpa using hk) hlt)
theorem fnd_mem {L : List Rn} (h : (L.map fun r => (r.l, r.i)).Nodup) {v : Rn} (hv : v ∈ L) : ∃ k : Nat, fndI L v.l v.i = k ∧ ∃ hk : k < L.length, L[k] = v := by
  rcases ixF_cases (fun x => decide (x.l = v.l) && decide (x.i = v.i)) L with hn | ⟨k, hk⟩
  · exact absurd ⟨rfl, rfl⟩ (fnd_neg hn v hv)
  · refine ⟨k, hk, ?_⟩
    obtain ⟨h1, h2⟩ := fnd_spec (L := L) (l := v.l) (i := v.i) hk
    obtain ⟨j, hj, rfl⟩ := List.getElem_of_mem hv
    obtain rfl := kd_ix h h1 hj h2
    exact ⟨h1, rfl⟩
/-- The first of the main line's items. -/
def hdY (s : Pl) : Int := (cmgV s 0).headD 0
theorem hd_ok {s : Pl} (hv : Inv NoR s) : ∀ r ∈ s.li, r.l = 0 → ∃ n, s.ln 0 = some n ∧ n.it.head? = some (hdY s) := by
  intro r hr h0
  obtain ⟨⟨n, h1, h2⟩, -⟩ := hv.c.hm r hr
  have h2 := h2.resolve_left (fun h => h)
  rw [h0] at h1
  have e : cmgV s 0 = n.it := by unfold cmgV; rw [h1]
  refine ⟨n, h1, ?_⟩
  unfold hdY
  rw [e]
  cases hn : n.it with
  | nil => rw [hn] at h2; cases h2
  | cons a b => rfl
theorem vic_mem {s : Pl} {y : Int} {v : Rn} (h : vicV s y = some v) : v ∈ s.li ∧ ¬ (v.l = 0 ∧ v.i = y) := by
  unfold vicV at h
  have h1 := List.mem_of_find?_eq_some h
  have h2 := List.find?_some h
  refine ⟨List.mem_reverse.1 h1, ?_⟩
  unfold vicP at h2
  rintro ⟨e1, e2⟩
  rw [decide_eq_true e1, decide_eq_true e2] at h2
  cases h2
theorem vic_run {s : Pl} {y : Int} {v : Rn} (h : vicV s y = some v) : runB s.li v.l v.i = true := List.any_eq_true.2 ⟨v, (vic_mem h).1, by simp⟩
/-- Nothing else runs in the trial of a victim. -/
theorem vic_alone {s : Pl} (hv : Inv NoR s) {y : Int} {v : Rn} (h : vicV s y = some v) : ∀ r ∈ s.li, ¬ Par s r v.t := by
  unfold vicV at h
  obtain ⟨-, xs, bs, e, h2⟩ := List.find?_eq_some_iff_append.1 h
  have hli : s.li = bs.reverse ++ v :: xs.reverse := by
    have := congrArg List.reverse e
    rw [List.reverse_reverse] at this
    rw [this]
    simp
  have hpo := hv.c.po
  rw [hli] at hpo
  obtain ⟨-, -, h3⟩ := List.pairwise_append.1 hpo
  intro r hr hp
  rw [hli] at hr
  rcases List.mem_append.1 hr with hr | hr
  · exact h3 r hr v (by simp) hp
  rcases List.mem_cons.1 hr with rfl | hr
  · exact hv.c.ps r (by rw [hli]; simp) hp
  · have := h2 r (List.mem_reverse.1 hr)
    unfold vicP at this
    simp at this
    have := hp.1
    omega
theorem vic_drop {s s' : Pl} (hv : Inv NoR s) {y : Int} {v : Rn} (h : vicV s y = some v) {o : List Int} {e : Int} (hr : AgR v.l v.i drpC s s' o e) : e = 0 ∧ o = [v.t] ∧ s'.li.length + 1 = s.li.length ∧ cmgV s' 0 = cmgV s 0 := by
  obtain ⟨k, hk, hkl, hkv⟩ := fnd_mem hv.c.kd (vic_mem h).1
  rcases hr with ⟨h1, -⟩ | ⟨k', h1, h2, h3⟩
  · omega
  obtain rfl : k' = k := by omega
  have hlen := h2.len
  have hz := (h2.zero (fun x hx => by cases hx)).1
  have ho : o = [v.t] := by
    generalize hu : cntS s v.l v.i drpC = u at h2
    have u1 : u.li = s.li := by rw [← hu]; rfl
    have u2 : u.ln = s.ln := by rw [← hu]; rfl
    cases h2 with
    | @rem _ _ _ ids o1 hk1 hw hc =>
      have hkt : u.li[k'].t = v.t := by
        have : u.li[k'] = v := by rw [← hkv]; congr 1
        rw [this]
      rw [hkt] at hw ⊢
      have := (hc.quiet (fun r hr hri => ?_)).1
      · rw [this]
      · obtain ⟨g0, n, g1, g2⟩ := (hw.2 _).1 hri
        have hr : r ∈ u.li.eraseIdx k' := hr
        have hr := (List.eraseIdx_sublist _ _).subset hr
        rw [u1] at hr
        have g1 : u.ln r.l = some n := g1
        rw [u2] at g1
        exact vic_alone hv h r hr ⟨g0, n, g1, g2⟩
  have hlen : o.length + s'.li.length = s.li.length := hlen
  refine ⟨h3, ho, ?_, ?_⟩
  · rw [ho] at hlen; simp at hlen; omega
  · unfold cmgV
    rw [hz]; rfl
theorem vic_end {s : Pl} (hv : Inv NoR s) (h : vicV s (hdY s) = none) : s.li = [] ∨ ∃ r, s.li = [r] ∧ r.l = 0 ∧ ∃ t, cmgV s 0 = r.i :: t := by
  have ha : ∀ r ∈ s.li, r.l = 0 ∧ r.i = hdY s := by
    intro r hr
    unfold vicV at h
    rw [List.find?_eq_none] at h
    have := h r (List.mem_reverse.2 hr)
    unfold vicP at this
    simpa using this
  cases hl : s.li with
  | nil => exact .inl rfl
  | cons a b =>
    refine .inr ⟨a, ?_, ?_⟩
    · cases b with
      | nil => rfl
      | cons c d =>
        have h1 := ha a (by rw [hl]; simp)
        have h2 := ha c (by rw [hl]; simp)
        have := kd_ix hv.c.kd (k := 0) (j := 1) (by rw [hl]; simp) (by rw [hl]; simp) (by simp [hl, h1.1, h1.2, h2.1, h2.2])
        cases this
    · have h1 := ha a (by rw [hl]; simp)
      obtain ⟨n, g1, g2⟩ := hd_ok hv a (by rw [hl]; simp) h1.1
      refine ⟨h1.1, ?_⟩
      unfold cmgV
      rw [g1]
      dsimp only
      cases hn : n.it with
      | nil => rw [hn] at g2; cases g2
      | cons x t =>
        rw [hn] at g2
        injection g2 with g2
        exact ⟨t, by rw [h1.2, g2]⟩
theorem hdY_of {s : Pl} (y : Int) (t : List Int) (h : cmgV s 0 = y :: t) : hdY s = y := by unfold hdY; rw [h]; rfl
theorem cmg_ne {s : Pl} (hv : Inv NoR s) {r : Rn} (hr : r ∈ s.li) (h0 : r.l = 0) : ∃ t, cmgV s 0 = hdY s :: t := by
  obtain ⟨n, h1, h2⟩ := hd_ok hv r hr h0
  have e : cmgV s 0 = n.it := by unfold cmgV; rw [h1]
  rw [e]
  cases hn : n.it with
  | nil => rw [hn] at h2; cases h2
  | cons a b => rw [hn] at h2; injection h2 with h2; exact ⟨b, by rw [h2]⟩
end Go.Proofs.Ytcopjjokhjealaa
namespace Go.Proofs.Ytcopjjokhjealaa
open Go.RowKit

/-- The law's operations. -/
structure OpsAt (w : World) (B : Option Addr) (L : List Op) : Prop where
  at_ : AtO w B L
  ok : ∀ x ∈ L, x.it.length ≤ 1000 → OkO x ∧ AtZ w x.A x.it
/-- The law's items. -/
structure ItsAt (w : World) (A : Option Addr) (L : List Int) : Prop where
  mx : L.length ≤ 9223372036854775807
  ok : L.length ≤ 1000 → AtZ w A L ∧ ∀ x ∈ L, -9223372036854775808 ≤ x ∧ x ≤ 9223372036854775807
theorem few_spec {L : List Op} (h : fewB L 60 = true) : L.length ≤ 60 ∧ ∀ x ∈ L, x.it.length ≤ 20 := by
  unfold fewB at h
  simp only [Bool.and_eq_true, decide_eq_true_eq, List.all_eq_true] at h
  exact ⟨by omega, fun x hx => h.1 x hx⟩
set_option maxRecDepth 1000000 in
set_option maxHeartbeats 12800000 in
theorem victims_walk (w : World) (A B : Option Addr) (its : List Int) (L : List Op) (ca cb : Nat) (hi : ItsAt w A its) (ho : OpsAt w B L) :
    Calls Try.prog 4 #[.slice A its.length ca, .slice B L.length cb] w fun e w' => e = .returned (.bool true) ∧ Keeps [] w w' := by
  have HI := Lib.hid hi
  have HO := Lib.hid ho
  have mi := hi.mx
  have CS := Lib.hid (small_any w)
  clear hi ho
  go_enter Try.func4, Try.ntmps4
  go_wp2_with fail
  refine CS.out.mono ?_
  rintro e w1 ⟨rfl, k1⟩
  have K1 := Lib.hid k1
  have hao := HO.out.at_.keep k1
  have CF := Lib.hid (few_any w1 B L cb 60 hao)
  have mo := hao.mx
  obtain ⟨V, hV⟩ : ∃ V, fewB L 60 = V := ⟨_, rfl⟩
  rw [hV] at CF
  have HV := Lib.hid hV
  clear hao k1 CS hV
  cases V with
  | false =>
    go_wp2_with fail
    refine CF.out.mono ?_
    rintro e w2 ⟨rfl, rfl⟩
    go_wp2_with fail
    go_ret
    exact ⟨rfl, K1.out⟩
  | true =>
    by_cases hbig : 60 < its.length
    · have hb2 : (60 : Int) < (its.length : Int) := by omega
      go_wp2_with fail
      refine CF.out.mono ?_
      rintro e w2 ⟨rfl, rfl⟩
      go_wp2_with fail
      go_ret
      exact ⟨rfl, K1.out⟩
    · have hb2 : ¬ (60 : Int) < (its.length : Int) := by omega
      obtain ⟨hz, hir⟩ := HI.out.ok (by omega)
      have CN := Lib.hid (new_sv w w1 K1.out A its ca (hz.keep K1.out) hir)
      obtain ⟨hl60, hfew⟩ := few_spec HV.out
      have HFW := Lib.hid hfew
      clear hz hir hfew HI
      go_wp2_with fail
      refine CF.out.mono ?_
      rintro e w2 ⟨rfl, rfl⟩
      go_wp2_with fail
      refine CN.out.mono ?_
      rintro e w3 ⟨F0, p, rfl, hs, -, -⟩
      have H0 := Lib.hid hs
      clear hs CN CF K1
      go_wp2_with fail
      go_loopw [7] (fun iv wr => ∃ k : Nat, k ≤ L.length ∧ iv = .int .i64 k ∧ ∃ F s, SV w wr F p s (1 + 2 * k)) (fun iv _ => L.length - (intOf iv).toNat)
      case atStart => exact ⟨0, by omega, rfl, F0, newS its, H0.out⟩
      case round =>
        obtain ⟨k, hk, rfl, F, s, hs⟩ := hrel
        have HS := Lib.hid hs
        clear hs H0
        by_cases hlt : k < L.length
        · obtain ⟨bl, off, hBB, hbl, hc⟩ := (HO.out.at_.keep HS.out.k).at_ (by omega)
          subst hBB
          obtain ⟨c0, c1, c2, c3, c4, c5⟩ := hc k hlt
          have i0 : (0 : Int) ≤ (k : Int) := by omega
          have i1 : (k : Int) < (L.length : Int) := by omega
          have hx := HO.out.ok L[k] (List.getElem_mem hlt) (by have := HFW.out L[k] (List.getElem_mem hlt); omega)
          obtain ⟨x, hxx⟩ : ∃ x, L[k] = x := ⟨_, rfl⟩
          rw [hxx] at c0 c1 c2 c3 c4 c5 hx
          have CD := Lib.hid (do_sv HS.out (by omega) x hx.1 hx.2)
          clear hc hx hxx HS
          go_wp2_with fail
          refine CD.out.mono ?_
          rintro e w4 ⟨v, s', o, n, en, F', rfl, -, -, hs, -, -, -⟩
          have HS := Lib.hid hs
          clear hs c0 c1 c2 c3 c4 c5 CD
          go_wp2_with fail
          go_roundw
          case rel => exact ⟨k + 1, by omega, by go_num, F', s', HS.out.mono (by omega)⟩
          case measure => simp [intOf]; omega
        · obtain rfl : k = L.length := by omega
          obtain ⟨Φ, hΦ⟩ : ∃ Φ, 1 + 2 * L.length = Φ := ⟨_, rfl⟩
          have hΦ2 : Φ ≤ 800 := by omega
          rw [hΦ] at HS
          clear hΦ HFW HV
          have CL := Lib.hid (list_sv HS.out hΦ2)
          go_wp2_with fail
          refine CL.out.mono ?_
          rintro e w3 ⟨A3, c3, rfl, -, k3⟩
          have H0 := Lib.hid (HS.out.keep0 k3)
          clear k3 CL HS
          go_wp2_with fail
          go_loopw [8] (fun iv wr => ∃ F s, iv = .int .i64 ((s : Pl).li.length : Nat) ∧ SV w wr F p s Φ) (fun iv _ => (intOf iv).toNat)
          case atStart => exact ⟨F, s, rfl, H0.out⟩
          case round =>
            obtain ⟨F, s, rfl, hs⟩ := hrel
            have HS := Lib.hid hs
            have CV := victim_sv hs hΦ2 (hdY s) (hd_ok hs.v)
            clear hs H0
            cases hv : vicV s (hdY s) with
            | none =>
              rw [hv] at CV
              have CV2 : Hid (Calls Try.prog 15 #[.pointer (some ⟨p, 0, none⟩)] wr fun e w' => e = .returned (.tuple #[.int .i64 0, .int .i64 0, .int .i64 0, .bool false]) ∧ Keeps [] wr w') := Lib.hid CV
              have HE := Lib.hid (vic_end HS.out.v hv)
              clear CV hv
              go_wp2_with fail
              refine CV2.out.mono ?_
              rintro e w4 ⟨rfl, k4⟩
              replace HS := Lib.hid (HS.out.keep0 k4)
              have CL := Lib.hid (list_sv HS.out hΦ2)
              clear k4 CV2
              rcases HE.out with hl | ⟨r, hl, hr0, t, hcm⟩
              · rw [hl] at CL
                clear hl HE
                go_wp2_with fail
                refine CL.out.mono ?_
                rintro e w5 ⟨A5, c5, rfl, -, k5⟩
                replace HS := Lib.hid (HS.out.keep0 k5)
                have CC := Lib.hid (coming_sv HS.out hΦ2 0)
                clear k5 CL
                go_wp2_with fail
                refine CC.out.mono ?_
                rintro e w6 ⟨A6, c6, rfl, -, k6⟩
                replace HS := Lib.hid (HS.out.keep0 k6)
                clear k6 CC
                go_wp2_with fail
                go_ret
                exact ⟨rfl, HS.out.k⟩
              · rw [hl] at CL
                clear hl HE
                go_wp2_with fail
                refine CL.out.mono ?_
                rintro e w5 ⟨A5, c5, rfl, ha5, k5⟩
                replace HS := Lib.hid (HS.out.keep0 k5)
                have CC := Lib.hid (coming_sv HS.out hΦ2 0)
                have HA5 := Lib.hid ha5
                clear k5 CL ha5
                go_wp2_with fail
                refine CC.out.mono ?_
                rintro e w6 ⟨A6, c6, rfl, ha6, k6⟩
                replace HS := Lib.hid (HS.out.keep0 k6)
                rw [hcm] at ha6 ⊢
                obtain ⟨b5, of5, rfl, hb5, hc5⟩ := (HA5.out.keep k6).at_ (by simp)
                obtain ⟨b6, of6, rfl, hb6, hc6⟩ := ha6.at_ (by simp)
                obtain ⟨g0, g1, -, -⟩ := hc5 0 (by simp)
                have g6 := hc6 0 (by simp)
                simp only [List.getElem_cons_zero, Nat.zero_mul, Nat.add_zero] at g0 g1 g6
                rw [hr0] at g0
                have hm6 := ha6.mx
                simp only [List.length_cons] at hm6 ⊢
                obtain ⟨m, hm⟩ : ∃ m, t.length = m := ⟨_, rfl⟩
                rw [hm] at hm6 ⊢
                have hmz : (0 : Int) < ((m + 1 : Nat) : Int) := by omega
                clear k6 CC hc5 hc6 hcm ha6 HA5 hm
                go_wp2_with go_quiet (fail)
                go_ret
                exact ⟨rfl, HS.out.k.drewN _⟩
            | some v =>
              rw [hv] at CV
              have CV2 : Hid (Calls Try.prog 15 #[.pointer (some ⟨p, 0, none⟩)] wr fun e w' => e = .returned (.tuple #[.int .i64 v.l, .int .i64 v.i, .int .i64 v.t, .bool true]) ∧ Keeps [] wr w') := Lib.hid CV
              have HVI := Lib.hid hv
              have HOK : Hid (kP.ok (v.l, v.i)) := Lib.hid ((HS.out.v.fit HS.out.c).kr v (vic_mem hv).1)
              have hrun := vic_run hv
              have hne := (vic_mem hv).2
              have HMM := Lib.hid (vic_mem hv).1
              clear CV hv
              go_wp2_with fail
              refine CV2.out.mono ?_
              rintro e w4 ⟨rfl, k4⟩
              have HS1 := Lib.hid (HS.out.keep0 k4)
              have CC := Lib.hid (coming_sv HS1.out hΦ2 0)
              clear k4 CV2
              go_wp2_with fail
              refine CC.out.mono ?_
              rintro e w5 ⟨A5, c5, rfl, ha5, k5⟩
              have HS2 := Lib.hid (HS1.out.keep0 k5)
              have CR := runs_sv HS2.out hΦ2 v.l v.i
              rw [hrun] at CR
              have HCR := Lib.hid CR
              have HZ5 := Lib.hid ha5
              clear k5 CC CR ha5 HS1 hrun
              go_wp2_with fail
              refine HCR.out.mono ?_
              rintro e w6 ⟨rfl, k6⟩
              have HS3 := Lib.hid (HS2.out.keep0 k6)
              have CL := Lib.hid (list_sv HS3.out hΦ2)
              have HZ := Lib.hid (HZ5.out.keep k6)
              clear k6 HCR HZ5 HS2
              by_cases hl0 : v.l = 0
              · have hii : ¬ v.i = hdY s := fun e => hne ⟨hl0, e⟩
                obtain ⟨t, hcm⟩ := cmg_ne HS.out.v HMM.out hl0
                obtain ⟨b6, of6, hAA, hb6, hc6⟩ := HZ.out.at_ (by rw [hcm]; simp)
                have g6 : w6.cell? ⟨b6, of6, none⟩ = some (.int .i64 (hdY s)) := by
                  have := hc6 0 (by rw [hcm]; simp)
                  simp only [hcm, List.getElem_cons_zero, Nat.add_zero] at this
                  exact this
                have hm6 := HZ.out.mx
                subst hAA
                obtain ⟨m, hm⟩ : ∃ m, (cmgV s 0).length = m + 1 := ⟨t.length, by rw [hcm]; simp⟩
                rw [hm] at hm6
                simp only [hm]
                have hmz : (0 : Int) < ((m + 1 : Nat) : Int) := by omega
                have hii2 : ¬ hdY s = v.i := fun e => hii e.symm
                obtain ⟨yy, hyy⟩ : ∃ yy, hdY s = yy := ⟨_, rfl⟩
                rw [hyy] at g6 hii hii2 hne
                clear hc6 hcm hm hyy hii HMM
                clear HZ
                go_wp2_with fail
                refine CL.out.mono ?_
                rintro e w7 ⟨A3, c3, rfl, -, k7⟩
                have h7 := HS3.out.keep0 k7
                have CD := Lib.hid (drop_sv h7 hΦ2 v.l v.i HOK.out)
                clear h7 k7 CL HS3 hmz hii2 hne hm6 g6 hb6 hl0
                go_wp2_with fail
                refine CD.out.mono ?_
                rintro e w8 ⟨v8, s2, o, en, rfl, hr, hro, h8, -, -⟩
                obtain ⟨rfl, rfl, hlen, -⟩ := vic_drop HS.out.v HVI.out hr
                obtain ⟨A4, c4, rfl, -, -, -⟩ := own_shape hro
                have z8 := AtZ.of_own (c := c4) (L := [v.t]) hro (by simp)
                obtain ⟨b4, of4, rfl, hb4, hc4⟩ := z8.at_ (by simp)
                have g0 : w8.cell? ⟨b4, of4, none⟩ = some (.int .i64 v.t) := hc4 0 (by simp)
                have H8 := Lib.hid h8
                have CL2 := Lib.hid (list_sv h8 hΦ2)
                have hlz : (s.li.length : Int) = (s2.li.length : Int) + 1 := by omega
                have hb2 := h8.li
                obtain ⟨q2, hq2⟩ : ∃ q2 : Nat, s2.li.length = q2 := ⟨_, rfl⟩
                obtain ⟨q1, hq1⟩ : ∃ q1 : Nat, s.li.length = q1 := ⟨_, rfl⟩
                rw [hq2] at hlz CL2 hlen hb2
                have hwq : wrap64 (q2 : Int) = (q2 : Int) := by unfold wrap64; omega
                rw [hq1] at hlz hlen
                simp only [hq1]
                clear hr hro h8 z8 hc4 CD HS HVI
                go_wp2_with fail
                refine CL2.out.mono ?_
                rintro e w9 ⟨A5, c5, rfl, -, k9⟩
                have H9 := Lib.hid (H8.out.keep0 k9)
                have HQ := Lib.hid hq2
                have HQ1 := Lib.hid hq1
                clear k9 H8 CL2 g0 hq1 hq2
                go_wp2_with fail
                go_roundw
                case rel => exact ⟨F, s2, by rw [HQ.out], H9.out⟩
                case measure =>
                  have h1 := HQ1.out
                  have h2 := HQ.out
                  simp [intOf]
                  omega
              · clear hne HMM
                clear HZ
                go_wp2_with fail
                refine CL.out.mono ?_
                rintro e w7 ⟨A3, c3, rfl, -, k7⟩
                have h7 := HS3.out.keep0 k7
                have CD := Lib.hid (drop_sv h7 hΦ2 v.l v.i HOK.out)
                clear h7 k7 CL HS3
                go_wp2_with fail
                refine CD.out.mono ?_
                rintro e w8 ⟨v8, s2, o, en, rfl, hr, hro, h8, -, -⟩
                obtain ⟨rfl, rfl, hlen, -⟩ := vic_drop HS.out.v HVI.out hr
                obtain ⟨A4, c4, rfl, -, -, -⟩ := own_shape hro
                have z8 := AtZ.of_own (c := c4) (L := [v.t]) hro (by simp)
                obtain ⟨b4, of4, rfl, hb4, hc4⟩ := z8.at_ (by simp)
                have g0 : w8.cell? ⟨b4, of4, none⟩ = some (.int .i64 v.t) := hc4 0 (by simp)
                have H8 := Lib.hid h8
                have CL2 := Lib.hid (list_sv h8 hΦ2)
                have hlz : (s.li.length : Int) = (s2.li.length : Int) + 1 := by omega
                have hb2 := h8.li
                obtain ⟨q2, hq2⟩ : ∃ q2 : Nat, s2.li.length = q2 := ⟨_, rfl⟩
                obtain ⟨q1, hq1⟩ : ∃ q1 : Nat, s.li.length = q1 := ⟨_, rfl⟩
                rw [hq2] at hlz CL2 hlen hb2
                have hwq : wrap64 (q2 : Int) = (q2 : Int) := by unfold wrap64; omega
                rw [hq1] at hlz hlen
                simp only [hq1]
                clear hr hro h8 z8 hc4 CD HS HVI
                go_wp2_with fail
                refine CL2.out.mono ?_
                rintro e w9 ⟨A5, c5, rfl, -, k9⟩
                have H9 := Lib.hid (H8.out.keep0 k9)
                have HQ := Lib.hid hq2
                have HQ1 := Lib.hid hq1
                clear k9 H8 CL2 g0 hq1 hq2
                go_wp2_with fail
                go_roundw
                case rel => exact ⟨F, s2, by rw [HQ.out], H9.out⟩
                case measure =>
                  have h1 := HQ1.out
                  have h2 := HQ.out
                  simp [intOf]
                  omega
end Go.Proofs.Ytcopjjokhjealaa
