/- The law PlannerTells, walked. -/
import Derived.Test.YtcopjjokhjealaaGreatN19
namespace Go.Proofs.YtcopjjokhjealaaGreat
open Go.RowKit

/-- The law's operations. -/
structure OpsZ (w : World) (B : Option Addr) (L : List Op) : Prop where
  at_ : AtO w B L
  ok : ∀ x ∈ L, x.it.length ≤ 1000 → OkO x ∧ AtZ w x.A x.it
  cp : ∀ x ∈ L, x.it.length ≤ x.c
/-- The law's items. -/
structure ItsZ (w : World) (A : Option Addr) (L : List Int) (c : Nat) : Prop where
  mx : L.length ≤ 9223372036854775807
  ok : L.length ≤ 1000 → AtZ w A L ∧ ∀ x ∈ L, -9223372036854775808 ≤ x ∧ x ≤ 9223372036854775807
  cp : L.length ≤ c
theorem few_spec {L : List Op} (h : fewB L 60 = true) : L.length ≤ 60 ∧ ∀ x ∈ L, x.it.length ≤ 20 := by
  unfold fewB at h
  simp only [Bool.and_eq_true, decide_eq_true_eq, List.all_eq_true] at h
  exact ⟨by omega, fun x hx => h.1 x hx⟩
/-- The planner stands while the reference is written. -/
theorem SV.keepQ {w0 w w' : World} {F : List Nat} {p q : Nat} {s : Pl} {Φ : Nat} (h : SV w0 w F p s Φ) (hk : Keeps [q] w w') (hq : q ∉ F) (hi : ¬ IntRow w q) (hb : w0.heap.size ≤ q) : SV w0 w' F p s Φ :=
  ⟨h.r.keep hk (fun g hg hm => hq (by rw [← List.mem_singleton.1 hm]; exact hg)) (fun g hg => by rw [List.mem_singleton.1 hg]; exact hi), h.f, h.k.trans hk (fun g hg => .inr (by rw [List.mem_singleton.1 hg]; exact hb)), h.v, h.c⟩
set_option maxRecDepth 1000000 in
set_option maxHeartbeats 25600000 in
theorem tells_walk (w : World) (A B : Option Addr) (its : List Int) (L : List Op) (ca cb : Nat) (hi : ItsZ w A its ca) (ho : OpsZ w B L) :
    Calls Tryz.prog 3 #[.slice A its.length ca, .slice B L.length cb] w fun e w' => e = .returned (.bool true) ∧ Keeps [] w w' := by
  have HI := Lib.hid hi
  have HO := Lib.hid ho
  have mi := hi.mx
  have CS := Lib.hid (small_any w)
  clear hi ho
  go_enter Tryz.func3, Tryz.ntmps3
  go_wp2_with fail
  refine CS.out.mono ?_
  rintro e w1 ⟨rfl, k1⟩
  have K1 := Lib.hid k1
  have hao := HO.out.at_.keep k1
  have CF := Lib.hid (few_any w1 B L cb 60 hao)
  have mo := hao.mx
  obtain ⟨V, hV⟩ : ∃ V, fewB L 60 = V := ⟨_, rfl⟩
  rw [hV] at CF
  have HV := Lib.hid hV
  clear hao k1 CS hV
  cases V with
  | false =>
    go_wp2_with fail
    refine CF.out.mono ?_
    rintro e w2 ⟨rfl, rfl⟩
    go_wp2_with fail
    go_ret
    exact ⟨rfl, K1.out⟩
  | true =>
    by_cases hbig : 520 < its.length
    · have hbig2 : (520 : Int) < (its.length : Int) := by omega
      go_wp2_with fail
      refine CF.out.mono ?_
      rintro e w2 ⟨rfl, rfl⟩
      go_wp2_with fail
      go_ret
      exact ⟨rfl, K1.out⟩
    · have hsm : ¬ (520 : Int) < (its.length : Int) := by omega
      obtain ⟨hLn, hLi⟩ := few_spec HV.out
      obtain ⟨hia, hir⟩ := HI.out.ok (by omega)
      have HLI := Lib.hid hLi
      go_wp2_with fail
      refine CF.out.mono ?_
      rintro e w2 ⟨rfl, rfl⟩
      have NW := Lib.hid (new_sv w2 w2 (Keeps.refl _ _) A its ca (hia.keep K1.out) hir)
      go_wp2_with fail
      refine NW.out.mono ?_
      rintro e w3 ⟨F, p, rfl, hsv, hk3, hfr⟩
      have NQ := Lib.hid (newQ_any w3 A its ca HI.out.cp ((hia.keep K1.out).keep hk3))
      have SV3 := Lib.hid hsv
      have K3 := Lib.hid hk3
      have HIR := Lib.hid hir
      clear hsv hk3 hfr NW hia hir hLi
      go_wp2_with fail
      refine NQ.out.mono ?_
      rintro e w4 ⟨q, G, rfl, hq4, hk4, hg4⟩
      have SV4 : Hid (SV w2 w4 F p (newS its) 1) := Lib.hid (SV3.out.keep0 hk4)
      have QP4 : Hid (QP w4 G q (newS its) 1) := Lib.hid ⟨1, 0, hq4, by omega, by show 0 + 0 ≤ 1; omega⟩
      have hz23 := K3.out.size
      have HG4 : Hid (∀ g ∈ G, w2.heap.size ≤ g) := Lib.hid (fun g hg => Nat.le_trans hz23 (hg4 g hg))
      have HD4 : Hid (∀ g ∈ F, g ∉ G) := Lib.hid (fun g hg hm => by have := SV3.out.lt g hg; have := hg4 g hm; omega)
      clear hq4 hk4 hg4 NQ SV3 K3
      go_wp2_with fail
      go_loopw [8] (fun iv wr => ∃ (j : Nat) (s : Pl) (F G : List Nat), j ≤ L.length ∧ iv = .int .i64 j ∧ SV w2 wr F p s (2 * j + 1) ∧ QP wr G q s (2 * j + 1) ∧ KO s ∧ (∀ g ∈ G, w2.heap.size ≤ g) ∧ (∀ g ∈ F, g ∉ G)) (fun iv _ => L.length - (intOf iv).toNat)
      case atStart => exact ⟨0, _, F, G, by omega, rfl, SV4.out, QP4.out, KO.newS its, HG4.out, HD4.out⟩
      case round =>
        obtain ⟨j, s, F, G, hj, rfl, hsv, hqp, hko, hg, hd⟩ := hrel
        have SVR := Lib.hid hsv
        have QPR := Lib.hid hqp
        have HKO := Lib.hid hko
        have HG := Lib.hid hg
        have HD := Lib.hid hd
        have hao := HO.out.at_.keep (K1.out.trans hsv.k (by simp))
        clear hsv hqp hko hg hd SV4 QP4 HG4 HD4
        by_cases hlt : j < L.length
        · obtain ⟨bl, off, hBB, hbl, hc⟩ := hao.at_ (by omega)
          subst hBB
          obtain ⟨c0, c1, c2, c3, c4, c5⟩ := hc j hlt
          have hx20 := HLI.out _ (List.getElem_mem hlt)
          obtain ⟨hok, hz⟩ := HO.out.ok _ (List.getElem_mem hlt) (by omega)
          have hcap := HO.out.cp _ (List.getElem_mem hlt)
          obtain ⟨x, hx⟩ : ∃ x, L[j] = x := ⟨_, rfl⟩
          rw [hx] at c0 c1 c2 c3 c4 c5 hok hz hcap
          have HOK := Lib.hid hok
          have HZ2 := Lib.hid (hz.keep K1.out)
          have HCP := Lib.hid hcap
          have i0 : (0 : Int) ≤ (j : Int) := by omega
          have i1 : (j : Int) < (L.length : Int) := by omega
          have hKb : Hid (∀ W, Keeps [] w2 W → W.cell? ⟨bl, off + j * 6, none⟩ = some (.int .i64 x.d) ∧ W.cell? ⟨bl, off + j * 6 + 1, none⟩ = some (.int .i64 x.l) ∧ W.cell? ⟨bl, off + j * 6 + 2, none⟩ = some (.int .i64 x.i) ∧ W.cell? ⟨bl, off + j * 6 + 3, none⟩ = some (.int .i64 x.t) ∧ W.cell? ⟨bl, off + j * 6 + 4, none⟩ = some (.int .i64 x.pd) ∧ W.cell? ⟨bl, off + j * 6 + 5, none⟩ = some (.slice x.A x.it.length x.c)) := Lib.hid (fun W kW => by
            obtain ⟨b', o', hB', -, hc'⟩ := (HO.out.at_.keep (K1.out.trans kW (by simp))).at_ (by omega)
            simp only [Option.some.injEq, Addr.mk.injEq, and_true] at hB'
            obtain ⟨rfl, rfl⟩ := hB'
            have := hc' j hlt
            rw [hx] at this
            exact this)
          have DO := Lib.hid (do_sv SVR.out (by omega) x hok HZ2.out)
          clear hc hx hok hz hcap hao
          go_wp2_with fail
          refine DO.out.mono ?_
          rintro e w5 ⟨v5, s5, o5, n5, en5, F5, rfl, hr5, ho5, hsv5, hk5, hF5, hf5⟩
          have HR5 := Lib.hid hr5
          have HO5 := Lib.hid ho5
          have SV5 := Lib.hid hsv5
          have QP5 := Lib.hid (QPR.out.keep hk5 (fun g hg hm => HD.out g hm hg) SVR.out.r.noInt)
          have HD5 : Hid (∀ g ∈ F5, g ∉ G) := Lib.hid (fun g hg hm => (hF5 g hg).elim (fun h => HD.out g h hm) (fun h => by have := QPR.out.lt g hm; omega))
          have hzr5 := hk5.size
          have HF5 := Lib.hid hf5
          obtain ⟨A5, c5', rfl, -, -, -⟩ := own_shape ho5
          obtain ⟨d0, d1, d2, d3, d4, d5⟩ := hKb.out w5 hsv5.k
          have hqm := QPR.out.memq
          have hqg : w2.heap.size ≤ q := HG.out q hqm
          have MO := Lib.hid (model_any w5 G q s (2 * j + 1) QP5.out (by omega) SVR.out.v SVR.out.c x HOK.out HCP.out (fun W kW => HZ2.out.keep ((hsv5.k.trans kW (fun g hg => .inr (by rw [List.mem_singleton.1 hg]; exact hqg))))))
          clear hr5 ho5 hsv5 hk5 hF5 hf5 DO c0 c1 c2 c3 c4 c5
          go_wp2_with fail
          refine MO.out.mono ?_
          rintro e w6 ⟨v6, s6, o6, n6, en6, G6, rfl, hr6, ho6, hqp6, hk6, hG6, hf6⟩
          obtain ⟨rfl, rfl, rfl, rfl⟩ := HR5.out.det hr6
          have hqF : q ∉ F5 := fun h => HD5.out q h hqm
          have hqi : ¬ IntRow w5 q := QP5.out.noInt q hqm
          have SV6 := Lib.hid (SV5.out.keepQ hk6 hqF hqi hqg)
          have QP6 := Lib.hid hqp6
          have O56 := Lib.hid (own_keep HO5.out hk6 (fun g hg hm => hqi (by rw [List.mem_singleton.1 hm] at hg; exact own_int HO5.out q hg)))
          have O66 := Lib.hid ho6
          have HD6 : Hid (∀ g ∈ F5, g ∉ G6) := Lib.hid (fun g hg hm => (hG6 g hm).elim (fun h => HD5.out g hg h) (fun h => by have := SV5.out.lt g hg; omega))
          have hz25 := SV5.out.k.size
          have HG6 : Hid (∀ g ∈ G6, w2.heap.size ≤ g) := Lib.hid (fun g hg => (hG6 g hg).elim (HG.out g) (fun h => by omega))
          have HKO6 := Lib.hid (hr6.ko SVR.out.v HKO.out)
          obtain ⟨A6, c6', rfl, -, -, -⟩ := own_shape ho6
          obtain ⟨y, hy⟩ := first_y SV6.out.v
          have HY := Lib.hid hy
          have hol : o5.length ≤ 1000 := by
            have h1 := hr6
            have hli : ∀ {s' : Pl} {o : List Int} {n e : Int}, DoR x s s' o n e → o.length ≤ s.li.length := by
              intro s' o n e h
              cases h with
              | com h hr =>
                rcases hr with ⟨-, rfl, rfl, -⟩ | ⟨k, r, n, y, h1, h2, h3, h4, h5⟩
                · simp
                rcases h5 with ⟨-, rfl, rfl, -⟩ | ⟨-, -, rfl, rfl, -⟩ | ⟨-, -, -, rfl, rfl, -⟩ | ⟨-, -, -, -, rfl, rfl, -⟩ | ⟨hy, hd, hw, hr, hst, -⟩
                · simp
                · simp
                · simp
                · simp
                · have : ∀ {l : Int} {it : List Int} {a b : Pl} {o : List Int}, St l it a b o → o.length ≤ a.li.length := by
                    intro l it a b o h
                    induction h with
                    | done h => simp
                    | step h hk h1 h2 ih =>
                      have := h1.len
                      rw [List.length_append]
                      have e : ∀ (s : Pl) (l i : Int) (ad : Ct), (cntS s l i ad).li.length = s.li.length := fun _ _ _ _ => rfl
                      rw [e] at this
                      omega
                  have h8 := this hst
                  have h9 : (setIt (cntS (takeOut s k) x.l x.i comC) x.l n x.it).li.length ≤ s.li.length := (List.eraseIdx_sublist s.li k).length_le
                  omega
              | con h hr =>
                rcases hr with ⟨-, rfl, rfl, -⟩ | ⟨k, h1, h2, -⟩
                · simp
                · have := h2.len
                  have e : (cntS s x.l x.i conC).li.length = s.li.length := rfl
                  omega
              | drp h hr =>
                rcases hr with ⟨-, rfl, rfl, -⟩ | ⟨k, h1, h2, -⟩
                · simp
                · have := h2.len
                  have e : (cntS s x.l x.i drpC).li.length = s.li.length := rfl
                  omega
              | gon h hr =>
                rcases hr with ⟨-, rfl, rfl⟩ | ⟨h0, h1, h2⟩
                · simp
                · have := h2.len; omega
              | _ => simp
            have := hli h1
            have := SVR.out.li
            omega
          have SI := Lib.hid (sameInts_any w6 _ _ o5 o5 c5' c6' (AtZ.of_own O56.out (by omega)) (AtZ.of_own O66.out (by omega)))
          clear hr6 ho6 hqp6 hk6 hG6 hf6 MO d0 d1 d2 d3 d4 d5 hy SV5 QP5 HO5 HF5 HD5
          have eqO : decide (o5 = o5) = true := by simp
          rw [eqO] at SI
          have nn : (n5 != n5) = false := by simp
          have ee : (en5 != en5) = false := by simp
          clear eqO
          go_wp2_with fail
          refine SI.out.mono ?_
          rintro e w7 ⟨rfl, hk7⟩
          have SV7 := Lib.hid (SV6.out.keep0 hk7)
          have QP7 := Lib.hid (QP6.out.keep0 hk7)
          obtain ⟨d0, d1, d2, d3, d4, d5⟩ := hKb.out w7 SV7.out.k
          have hfit := SV7.out.v.fit SV7.out.c
          have hli7 := SV7.out.li
          have OL := Lib.hid (oldest_sv SV7.out (by omega) x.l HOK.out.l1 HOK.out.l2)
          clear hk7 SI SV6 QP6 d0 d2 d3 d4 d5 hfit
          go_wp2_with fail
          refine OL.out.mono ?_
          rintro e w8 ⟨rfl, hk8⟩
          have SV8 := Lib.hid (SV7.out.keep0 hk8)
          have QP8 := Lib.hid (QP7.out.keep0 hk8)
          obtain ⟨-, d1, -⟩ := hKb.out w8 SV8.out.k
          obtain ⟨nl8, nc8, hqr8, hn8, hn9⟩ := QP8.out
          have OQ := Lib.hid (oldestQ_any w8 G6 q s5 nl8 nc8 hqr8 (by omega) (by omega) (SV8.out.v.fit SV8.out.c).itl x.l)
          obtain ⟨⟨ov, ot⟩, hov⟩ : ∃ ov, (oldV s5 x.l).getD (0, 0) = ov := ⟨_, rfl⟩
          obtain ⟨ob, hob⟩ : ∃ ob, (oldV s5 x.l).isSome = ob := ⟨_, rfl⟩
          rw [hov, hob] at OQ ⊢
          clear hk8 hqr8 OL SV7 QP7 hov hob
          go_wp2_with fail
          refine OQ.out.mono ?_
          rintro e w9 ⟨rfl, hk9⟩
          have SV9 := Lib.hid (SV8.out.keep0 hk9)
          have QP9 := Lib.hid (QP8.out.keep0 hk9)
          have VC := Lib.hid (victim_sv SV9.out (by omega) y HY.out)
          clear hk9 OQ SV8 QP8 d1
          go_wp2_with fail
          refine VC.out.mono ?_
          rintro e w10 ⟨rfl, hk10⟩
          have SV10 := Lib.hid (SV9.out.keep0 hk10)
          have QP10 := Lib.hid (QP9.out.keep0 hk10)
          obtain ⟨nl10, nc10, hqr10, hn10, hn11⟩ := QP10.out
          have VQ := Lib.hid (victimQ_any w10 G6 q s5 nl10 nc10 hqr10 (by omega) (fun x n hx => (SV10.out.v.c.id x n hx).1) y HY.out)
          obtain ⟨vl, hvl⟩ : ∃ z, ((vicV s5 y).map (·.l)).getD 0 = z := ⟨_, rfl⟩
          obtain ⟨vi, hvi⟩ : ∃ z, ((vicV s5 y).map (·.i)).getD 0 = z := ⟨_, rfl⟩
          obtain ⟨vt, hvt⟩ : ∃ z, ((vicV s5 y).map (·.t)).getD 0 = z := ⟨_, rfl⟩
          obtain ⟨vb, hvb⟩ : ∃ z, (vicV s5 y).isSome = z := ⟨_, rfl⟩
          rw [hvl, hvi, hvt, hvb] at VQ ⊢
          clear hk10 hqr10 VC SV9 QP9 hvl hvi hvt hvb
          go_wp2_with fail
          refine VQ.out.mono ?_
          rintro e w11 ⟨rfl, hk11⟩
          have SV11 := Lib.hid (SV10.out.keep0 hk11)
          have QP11 := Lib.hid (QP10.out.keep0 hk11)
          have z0 : (ov != ov) = false := by simp
          have z1 : (ot != ot) = false := by simp
          have z2 : (ob != ob) = false := by simp
          have z3 : (vl != vl) = false := by simp
          have z4 : (vi != vi) = false := by simp
          have z5 : (vt != vt) = false := by simp
          have z6 : (vb != vb) = false := by simp
          clear hk11 VQ SV10 QP10
          go_wp2_with fail
          go_roundw
          case rel => exact ⟨j + 1, s5, F5, G6, by omega, by go_num, SV11.out.mono (by omega), QP11.out.mono (by omega), HKO6.out, HG6.out, HD6.out⟩
          case measure => simp [intOf]; omega
        · obtain rfl : j = L.length := by omega
          have AK := Lib.hid (alike_any w2 wr F G p q s (2 * L.length + 1) SVR.out QPR.out (by omega) HKO.out)
          clear hao
          go_wp2_with fail
          refine AK.out.mono ?_
          rintro e w12 ⟨rfl, hk12⟩
          have KE := Lib.hid ((K1.out.trans SVR.out.k (by simp)).trans hk12 (by simp))
          clear hk12
          go_wp2_with fail
          go_ret
          exact ⟨rfl, KE.out⟩
end Go.Proofs.YtcopjjokhjealaaGreat
