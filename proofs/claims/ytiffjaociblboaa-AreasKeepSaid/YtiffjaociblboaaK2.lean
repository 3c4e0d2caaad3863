/- The walk of AreasKeep (printed by k2gen.py). -/
import Derived.Test.YtiffjaociblboaaK1
namespace Go.Proofs.Ytiffjaociblboaa
open Go.RowKit

set_option maxRecDepth 1000000 in
set_option maxHeartbeats 12800000 in
theorem keep_walk (w : World) (A : Option Addr) (c : Nat) (L : List Ar) (x : Ar) (pg n : Int) (h : AtB w A L) :
    Calls Try.prog 3 #[.slice A L.length c, x.v, .int .i64 pg, .int .i64 n] w fun e w' => e = .returned (.bool true) ∧ Keeps [] w w' := by
  obtain ⟨xa, xn, xo, xf, xs, xw⟩ := x
  unfold Ar.v
  dsimp only
  have HB := Lib.hid h
  have hmx := h.mx
  obtain ⟨N, hN⟩ : ∃ N, nmd L = N := ⟨_, rfl⟩
  have HN := Lib.hid hN
  have HX : Hid (∀ W, Keeps [] (w.alloc (.cells #[.int .i64 xa, .int .i64 xn, .string xo, .int .i64 xf, .bool xs, .bool xw] 24)) W → Blk W w.heap.size 24 #[.int .i64 xa, .int .i64 xn, .string xo, .int .i64 xf, .bool xs, .bool xw]) := Lib.hid (fun W k => (Blk.new w 24 _).keep k (by simp))
  have KX : Hid (Keeps [] w (w.alloc (.cells #[.int .i64 xa, .int .i64 xn, .string xo, .int .i64 xf, .bool xs, .bool xw] 24))) := Lib.hid ((Keeps.refl [] w).alloc _)
  clear h hN
  go_enter Try.func3, Try.ntmps3
  go_wp2_with fail
  refine (small_any _).mono ?_
  rintro e w1 ⟨rfl, k1⟩
  have K1 := Lib.hid k1
  clear k1
  go_wp2_with fail
  have cn := named_big w1 A L c (HB.out.keep (KX.out.trans K1.out (by simp)))
  rw [HN.out] at cn
  refine cn.mono ?_
  clear cn
  rintro e w1' ⟨rfl, rfl⟩
  have b0 := HX.out w1 K1.out
  have c2 : w1.cell? ⟨w.heap.size, 2, none⟩ = some (.string xo) := b0.cell 2
  clear b0
  cases N with
  | false =>
    go_wp2_with fail
    go_ret
    exact ⟨rfl, KX.out.trans K1.out (by simp)⟩
  | true =>
  by_cases hxo : xo.size ≤ 20
  rotate_left
  · go_wp2_with fail
    go_ret
    exact ⟨rfl, KX.out.trans K1.out (by simp)⟩
  have hl20 := nmd_len HN.out
  obtain ⟨V, hV⟩ : ∃ V, Vl L = V := ⟨_, rfl⟩
  have HV := Lib.hid hV
  have HA : Hid (∀ W, Keeps [] (w.alloc (.cells #[.int .i64 xa, .int .i64 xn, .string xo, .int .i64 xf, .bool xs, .bool xw] 24)) W → AtL W A L) := Lib.hid (fun W k => (HB.out.keep (KX.out.trans k (by simp))).atL (by have := nmd_len HN.out; omega))
  clear hV HB
  go_wp2_with fail
  have cv := Valid_any w1 A L c (HA.out _ K1.out)
  rw [HV.out] at cv
  refine cv.mono ?_
  clear cv
  rintro e w2 ⟨rfl, k2⟩
  have K2 : Hid (Keeps [] (w.alloc (.cells #[.int .i64 xa, .int .i64 xn, .string xo, .int .i64 xf, .bool xs, .bool xw] 24)) w2) := Lib.hid (K1.out.trans k2 (by simp))
  clear k2 K1 c2
  cases V with
  | false =>
    go_wp2_with fail
    go_ret
    exact ⟨rfl, KX.out.trans K2.out (by simp)⟩
  | true =>
  have hl16 := (vl_chn HV.out).2
  obtain ⟨W0, hW0⟩ : ∃ W0, w.alloc (.cells #[.int .i64 xa, .int .i64 xn, .string xo, .int .i64 xf, .bool xs, .bool xw] 24) = W0 := ⟨_, rfl⟩
  rw [hW0] at HX KX HA K2
  obtain ⟨xb, hxb⟩ : ∃ xb, w.heap.size = xb := ⟨_, rfl⟩
  rw [hxb] at HX
  try rw [hxb]
  clear hW0 hxb
  have b0 := HX.out w2 K2.out
  have d0 : w2.cell? ⟨xb, 0, none⟩ = some (.int .i64 xa) := b0.cell 0
  have d1 : w2.cell? ⟨xb, 1, none⟩ = some (.int .i64 xn) := b0.cell 1
  have d2 : w2.cell? ⟨xb, 2, none⟩ = some (.string xo) := b0.cell 2
  have d3 : w2.cell? ⟨xb, 3, none⟩ = some (.int .i64 xf) := b0.cell 3
  have d4 : w2.cell? ⟨xb, 4, none⟩ = some (.bool xs) := b0.cell 4
  have d5 : w2.cell? ⟨xb, 5, none⟩ = some (.bool xw) := b0.cell 5
  clear b0
  go_wp2_with fail
  refine (map_any w2 A L c ⟨xa, xn, xo, xf, xs, xw⟩ (HA.out _ K2.out) (vl_vds HV.out)).mono ?_
  clear d0 d1 d2 d3 d4 d5
  intro e w3 hm
  rcases hm with ⟨hE, v3, rfl, o3⟩ | ⟨hE, rfl, k3⟩
  · obtain ⟨hvx, hvb, hfb⟩ := map_ok HV.out hE
    obtain ⟨Lb, hLb⟩ : ∃ Lb, insA ⟨xa, xn, xo, xf, xs, xw⟩ L = Lb := ⟨_, rfl⟩
    rw [hLb] at o3 hvb hfb
    obtain ⟨Ab, cb, rfl⟩ := o3.shape
    have hlb := (vl_chn hvb).2
    have HLB : Hid (∀ W, Keeps [] w3 W → AtL W Ab Lb) := Lib.hid (fun W k => (o3.at_ (by omega)).keep k)
    have K3 : Hid (Keeps [] W0 w3) := Lib.hid (K2.out.trans o3.2.1 (by simp))
    have g1 := hvx.a0
    have g2 := hvx.an
    have g3 := hvx.n1
    have g4 := hvx.f0
    have g5 := hvx.fn
    dsimp only at g1 g2 g3 g4 g5
    have HVB := Lib.hid hvb
    have HFB := Lib.hid hfb
    clear o3 hE hLb hvx hvb hfb K2
    go_wp2_with fail
    refine (unmap_any w3 A L c pg n (HA.out _ K3.out) (vl_vds HV.out)).mono ?_
    intro e w4 hu
    rcases hu with ⟨hF, v4, rfl, o4⟩ | ⟨hF, rfl, k4⟩
    · obtain ⟨hpn, hvc, hfc1, hfc2⟩ := unm_okay HV.out hF
      obtain ⟨p0, p1, p2, p3⟩ := hpn
      obtain ⟨Lc, hLc⟩ : ∃ Lc, unmA L pg n = Lc := ⟨_, rfl⟩
      rw [hLc] at o4 hvc hfc1 hfc2
      obtain ⟨Ac, cc, rfl⟩ := o4.shape
      have hlc := (vl_chn hvc).2
      have HLC : Hid (∀ W, Keeps [] w4 W → AtL W Ac Lc) := Lib.hid (fun W k => (o4.at_ (by omega)).keep k)
      have K34 : Hid (Keeps [] w3 w4) := Lib.hid o4.2.1
      have HVC := Lib.hid hvc
      have HFC := Lib.hid (And.intro hfc1 hfc2)
      clear o4 hF hLc hvc hfc1 hfc2
      have K4 : Hid (Keeps [] W0 w4) := Lib.hid (K3.out.trans K34.out (by simp))
      go_wp2_with fail
      have cvb := Valid_any w4 Ab Lb cb (HLB.out w4 K34.out)
      rw [HVB.out] at cvb
      refine cvb.mono ?_
      clear cvb
      rintro e w5 ⟨rfl, k5⟩
      have K5 := Lib.hid k5
      clear k5
      go_wp2_with fail
      have cvc := Valid_any w5 Ac Lc cc (HLC.out w5 K5.out)
      rw [HVC.out] at cvc
      refine cvc.mono ?_
      clear cvc
      rintro e w6 ⟨rfl, k6⟩
      have K6 := Lib.hid (K5.out.trans k6 (by simp))
      clear k6 K5
      obtain ⟨w7, hw7⟩ : ∃ w7, w6 = w7 := ⟨_, rfl⟩
      rw [hw7] at K6
      rw [hw7]
      have K7 := K6
      clear K6 hw7
      obtain ⟨w8, hw8⟩ : ∃ w8, w7 = w8 := ⟨_, rfl⟩
      rw [hw8] at K7
      rw [hw8]
      have K8 := K7
      clear K7 hw8
      go_wp2_with fail
      go_loopw [14] (fun p wr => ∃ q : Int, p = .int .i64 q ∧ -1 ≤ q ∧ q ≤ 257 ∧ Keeps [] w4 wr) (fun p _ => (257 - intOf p).toNat)
      case atStart => exact ⟨-1, rfl, by omega, by omega, K8.out⟩
      case round =>
        obtain ⟨q, rfl, hq0, hq1, kp⟩ := hrel
        have KP := Lib.hid kp
        clear kp K8
        by_cases hq : q ≤ 256
        rotate_left
        · go_wp2_with fail
          go_ret
          exact ⟨rfl, (KX.out.trans K4.out (by simp)).trans KP.out (by simp)⟩
        have b0 := HX.out wr (K4.out.trans KP.out (by simp))
        have d0 : wr.cell? ⟨xb, 0, none⟩ = some (.int .i64 xa) := b0.cell 0
        have d1 : wr.cell? ⟨xb, 1, none⟩ = some (.int .i64 xn) := b0.cell 1
        clear b0
        by_cases hin1 : xa ≤ q ∧ q < xa + xn
        · obtain ⟨i1, i2⟩ := hin1
          have hfx : fnd Lb q = some ⟨xa, xn, xo, xf, xs, xw⟩ := by rw [HFB.out q, if_pos (inA_iff.2 ⟨i1, i2⟩)]
          have HFX := Lib.hid hfx
          clear hfx
          go_wp2_with fail
          have cf := find_any _ Ab Lb cb q (HLB.out _ (K34.out.trans KP.out (by simp))) (vl_vds HVB.out)
          rw [fndV_some HFX.out, HFX.out] at cf
          unfold Ar.v at cf
          refine cf.mono ?_
          clear cf
          rintro e w8 ⟨rfl, k8⟩
          have kk8 : Keeps [] w4 (w8.alloc (.cells #[.int .i64 xa, .int .i64 xn, .string xo, .int .i64 xf, .bool xs, .bool xw] 24)) := (KP.out.trans k8 (by simp)).alloc _
          have b0 := HX.out _ (K4.out.trans kk8 (by simp))
          have e0 : (w8.alloc (.cells #[.int .i64 xa, .int .i64 xn, .string xo, .int .i64 xf, .bool xs, .bool xw] 24)).cell? ⟨xb, 0, none⟩ = some (.int .i64 xa) := b0.cell 0
          have e2 : (w8.alloc (.cells #[.int .i64 xa, .int .i64 xn, .string xo, .int .i64 xf, .bool xs, .bool xw] 24)).cell? ⟨xb, 2, none⟩ = some (.string xo) := b0.cell 2
          have e3 : (w8.alloc (.cells #[.int .i64 xa, .int .i64 xn, .string xo, .int .i64 xf, .bool xs, .bool xw] 24)).cell? ⟨xb, 3, none⟩ = some (.int .i64 xf) := b0.cell 3
          have e4 : (w8.alloc (.cells #[.int .i64 xa, .int .i64 xn, .string xo, .int .i64 xf, .bool xs, .bool xw] 24)).cell? ⟨xb, 4, none⟩ = some (.bool xs) := b0.cell 4
          have e5 : (w8.alloc (.cells #[.int .i64 xa, .int .i64 xn, .string xo, .int .i64 xf, .bool xs, .bool xw] 24)).cell? ⟨xb, 5, none⟩ = some (.bool xw) := b0.cell 5
          have K8 := Lib.hid kk8
          clear k8 kk8 b0 d0 d1
          go_upto_region 17 with fail
          clear e0 e2 e3 e4 e5
          by_cases hin2 : pg ≤ q ∧ q < pg + n
          · obtain ⟨i1, i2⟩ := hin2
            go_wp2_with fail
            have cf := find_any _ Ac Lc cc q (HLC.out _ K8.out) (vl_vds HVC.out)
            rw [fndV_none (HFC.out.1 q i1 i2), HFC.out.1 q i1 i2] at cf
            unfold Ar.v zA at cf
            refine cf.mono ?_
            clear cf
            rintro e w9 ⟨rfl, k9⟩
            have K9 : Hid (Keeps [] w4 w9) := Lib.hid (K8.out.trans k9 (by simp))
            clear k9
            go_wp2_with fail
            go_roundw
            case rel => exact ⟨q + 1, by go_num, by omega, by omega, K9.out.alloc _⟩
            case measure => simp [intOf]; omega
          · have hs2 := HFC.out.2 q hin2
            have HS2 := Lib.hid hs2
            clear hs2
            by_cases i1 : pg ≤ q
            · have i2 : pg + n ≤ q := by omega
              clear hin2
              go_wp2_with fail
              refine (shows_any _ A Ac L Lc c cc q (HA.out _ (K4.out.trans K8.out (by simp))) (HLC.out _ K8.out) (vl_vds HV.out) (vl_vds HVC.out) HS2.out).mono ?_
              rintro e w9 ⟨rfl, k9⟩
              have K9 : Hid (Keeps [] w4 w9) := Lib.hid (K8.out.trans k9 (by simp))
              clear k9
              go_wp2_with fail
              go_roundw
              case rel => exact ⟨q + 1, by go_num, by omega, by omega, K9.out⟩
              case measure => simp [intOf]; omega
            · clear hin2
              go_wp2_with fail
              refine (shows_any _ A Ac L Lc c cc q (HA.out _ (K4.out.trans K8.out (by simp))) (HLC.out _ K8.out) (vl_vds HV.out) (vl_vds HVC.out) HS2.out).mono ?_
              rintro e w9 ⟨rfl, k9⟩
              have K9 : Hid (Keeps [] w4 w9) := Lib.hid (K8.out.trans k9 (by simp))
              clear k9
              go_wp2_with fail
              go_roundw
              case rel => exact ⟨q + 1, by go_num, by omega, by omega, K9.out⟩
              case measure => simp [intOf]; omega
        · have hfx : shw (fnd L q) = shw (fnd Lb q) := by rw [HFB.out q, if_neg (fun h => hin1 (inA_iff.1 h))]
          have HS1 := Lib.hid hfx
          clear hfx
          by_cases i1 : xa ≤ q
          · have i2 : xa + xn ≤ q := by omega
            clear hin1
            go_wp2_with fail
            refine (shows_any _ A Ab L Lb c cb q (HA.out _ (K4.out.trans KP.out (by simp))) (HLB.out _ (K34.out.trans KP.out (by simp))) (vl_vds HV.out) (vl_vds HVB.out) HS1.out).mono ?_
            rintro e w8 ⟨rfl, k8⟩
            have K8 : Hid (Keeps [] w4 w8) := Lib.hid (KP.out.trans k8 (by simp))
            clear k8 HS1
            by_cases hin2 : pg ≤ q ∧ q < pg + n
            · obtain ⟨i1, i2⟩ := hin2
              go_wp2_with fail
              have cf := find_any _ Ac Lc cc q (HLC.out _ K8.out) (vl_vds HVC.out)
              rw [fndV_none (HFC.out.1 q i1 i2), HFC.out.1 q i1 i2] at cf
              unfold Ar.v zA at cf
              refine cf.mono ?_
              clear cf
              rintro e w9 ⟨rfl, k9⟩
              have K9 : Hid (Keeps [] w4 w9) := Lib.hid (K8.out.trans k9 (by simp))
              clear k9
              go_wp2_with fail
              go_roundw
              case rel => exact ⟨q + 1, by go_num, by omega, by omega, K9.out.alloc _⟩
              case measure => simp [intOf]; omega
            · have hs2 := HFC.out.2 q hin2
              have HS2 := Lib.hid hs2
              clear hs2
              by_cases i1 : pg ≤ q
              · have i2 : pg + n ≤ q := by omega
                clear hin2
                go_wp2_with fail
                refine (shows_any _ A Ac L Lc c cc q (HA.out _ (K4.out.trans K8.out (by simp))) (HLC.out _ K8.out) (vl_vds HV.out) (vl_vds HVC.out) HS2.out).mono ?_
                rintro e w9 ⟨rfl, k9⟩
                have K9 : Hid (Keeps [] w4 w9) := Lib.hid (K8.out.trans k9 (by simp))
                clear k9
                go_wp2_with fail
                go_roundw
                case rel => exact ⟨q + 1, by go_num, by omega, by omega, K9.out⟩
                case measure => simp [intOf]; omega
              · clear hin2
                go_wp2_with fail
                refine (shows_any _ A Ac L Lc c cc q (HA.out _ (K4.out.trans K8.out (by simp))) (HLC.out _ K8.out) (vl_vds HV.out) (vl_vds HVC.out) HS2.out).mono ?_
                rintro e w9 ⟨rfl, k9⟩
                have K9 : Hid (Keeps [] w4 w9) := Lib.hid (K8.out.trans k9 (by simp))
                clear k9
                go_wp2_with fail
                go_roundw
                case rel => exact ⟨q + 1, by go_num, by omega, by omega, K9.out⟩
                case measure => simp [intOf]; omega
          · clear hin1
            go_wp2_with fail
            refine (shows_any _ A Ab L Lb c cb q (HA.out _ (K4.out.trans KP.out (by simp))) (HLB.out _ (K34.out.trans KP.out (by simp))) (vl_vds HV.out) (vl_vds HVB.out) HS1.out).mono ?_
            rintro e w8 ⟨rfl, k8⟩
            have K8 : Hid (Keeps [] w4 w8) := Lib.hid (KP.out.trans k8 (by simp))
            clear k8 HS1
            by_cases hin2 : pg ≤ q ∧ q < pg + n
            · obtain ⟨i1, i2⟩ := hin2
              go_wp2_with fail
              have cf := find_any _ Ac Lc cc q (HLC.out _ K8.out) (vl_vds HVC.out)
              rw [fndV_none (HFC.out.1 q i1 i2), HFC.out.1 q i1 i2] at cf
              unfold Ar.v zA at cf
              refine cf.mono ?_
              clear cf
              rintro e w9 ⟨rfl, k9⟩
              have K9 : Hid (Keeps [] w4 w9) := Lib.hid (K8.out.trans k9 (by simp))
              clear k9
              go_wp2_with fail
              go_roundw
              case rel => exact ⟨q + 1, by go_num, by omega, by omega, K9.out.alloc _⟩
              case measure => simp [intOf]; omega
            · have hs2 := HFC.out.2 q hin2
              have HS2 := Lib.hid hs2
              clear hs2
              by_cases i1 : pg ≤ q
              · have i2 : pg + n ≤ q := by omega
                clear hin2
                go_wp2_with fail
                refine (shows_any _ A Ac L Lc c cc q (HA.out _ (K4.out.trans K8.out (by simp))) (HLC.out _ K8.out) (vl_vds HV.out) (vl_vds HVC.out) HS2.out).mono ?_
                rintro e w9 ⟨rfl, k9⟩
                have K9 : Hid (Keeps [] w4 w9) := Lib.hid (K8.out.trans k9 (by simp))
                clear k9
                go_wp2_with fail
                go_roundw
                case rel => exact ⟨q + 1, by go_num, by omega, by omega, K9.out⟩
                case measure => simp [intOf]; omega
              · clear hin2
                go_wp2_with fail
                refine (shows_any _ A Ac L Lc c cc q (HA.out _ (K4.out.trans K8.out (by simp))) (HLC.out _ K8.out) (vl_vds HV.out) (vl_vds HVC.out) HS2.out).mono ?_
                rintro e w9 ⟨rfl, k9⟩
                have K9 : Hid (Keeps [] w4 w9) := Lib.hid (K8.out.trans k9 (by simp))
                clear k9
                go_wp2_with fail
                go_roundw
                case rel => exact ⟨q + 1, by go_num, by omega, by omega, K9.out⟩
                case measure => simp [intOf]; omega
    · have K34 : Hid (Keeps [] w3 w4) := Lib.hid k4
      obtain ⟨Fe, hFe⟩ : ∃ Fe, unmE L pg n = Fe := ⟨_, rfl⟩
      rw [hFe] at hF
      rw [hFe]
      clear k4 hFe
      have K4 : Hid (Keeps [] W0 w4) := Lib.hid (K3.out.trans K34.out (by simp))
      go_wp2_with fail
      have cvb := Valid_any w4 Ab Lb cb (HLB.out w4 K34.out)
      rw [HVB.out] at cvb
      refine cvb.mono ?_
      clear cvb
      rintro e w5 ⟨rfl, k5⟩
      have K5 := Lib.hid k5
      clear k5
      go_wp2_with fail
      have cvc := Valid_any w5 A L c (HA.out w5 (K4.out.trans K5.out (by simp)))
      rw [HV.out] at cvc
      refine cvc.mono ?_
      clear cvc
      rintro e w6 ⟨rfl, k6⟩
      have K6 := Lib.hid (K5.out.trans k6 (by simp))
      clear k6 K5
      obtain ⟨w7, hw7⟩ : ∃ w7, w6 = w7 := ⟨_, rfl⟩
      rw [hw7] at K6
      rw [hw7]
      have K7 := K6
      clear K6 hw7
      go_wp2_with fail
      refine (same_any w7 A A L c c (HA.out _ (K4.out.trans K7.out (by simp))) (HA.out _ (K4.out.trans K7.out (by simp)))).mono ?_
      rintro e w8 ⟨rfl, k8⟩
      have K8 := Lib.hid (K7.out.trans k8 (by simp))
      clear k8 K7
      go_wp2_with fail
      go_loopw [14] (fun p wr => ∃ q : Int, p = .int .i64 q ∧ -1 ≤ q ∧ q ≤ 257 ∧ Keeps [] w4 wr) (fun p _ => (257 - intOf p).toNat)
      case atStart => exact ⟨-1, rfl, by omega, by omega, K8.out⟩
      case round =>
        obtain ⟨q, rfl, hq0, hq1, kp⟩ := hrel
        have KP := Lib.hid kp
        clear kp K8
        by_cases hq : q ≤ 256
        rotate_left
        · go_wp2_with fail
          go_ret
          exact ⟨rfl, (KX.out.trans K4.out (by simp)).trans KP.out (by simp)⟩
        have b0 := HX.out wr (K4.out.trans KP.out (by simp))
        have d0 : wr.cell? ⟨xb, 0, none⟩ = some (.int .i64 xa) := b0.cell 0
        have d1 : wr.cell? ⟨xb, 1, none⟩ = some (.int .i64 xn) := b0.cell 1
        clear b0
        by_cases hin1 : xa ≤ q ∧ q < xa + xn
        · obtain ⟨i1, i2⟩ := hin1
          have hfx : fnd Lb q = some ⟨xa, xn, xo, xf, xs, xw⟩ := by rw [HFB.out q, if_pos (inA_iff.2 ⟨i1, i2⟩)]
          have HFX := Lib.hid hfx
          clear hfx
          go_wp2_with fail
          have cf := find_any _ Ab Lb cb q (HLB.out _ (K34.out.trans KP.out (by simp))) (vl_vds HVB.out)
          rw [fndV_some HFX.out, HFX.out] at cf
          unfold Ar.v at cf
          refine cf.mono ?_
          clear cf
          rintro e w8 ⟨rfl, k8⟩
          have kk8 : Keeps [] w4 (w8.alloc (.cells #[.int .i64 xa, .int .i64 xn, .string xo, .int .i64 xf, .bool xs, .bool xw] 24)) := (KP.out.trans k8 (by simp)).alloc _
          have b0 := HX.out _ (K4.out.trans kk8 (by simp))
          have e0 : (w8.alloc (.cells #[.int .i64 xa, .int .i64 xn, .string xo, .int .i64 xf, .bool xs, .bool xw] 24)).cell? ⟨xb, 0, none⟩ = some (.int .i64 xa) := b0.cell 0
          have e2 : (w8.alloc (.cells #[.int .i64 xa, .int .i64 xn, .string xo, .int .i64 xf, .bool xs, .bool xw] 24)).cell? ⟨xb, 2, none⟩ = some (.string xo) := b0.cell 2
          have e3 : (w8.alloc (.cells #[.int .i64 xa, .int .i64 xn, .string xo, .int .i64 xf, .bool xs, .bool xw] 24)).cell? ⟨xb, 3, none⟩ = some (.int .i64 xf) := b0.cell 3
          have e4 : (w8.alloc (.cells #[.int .i64 xa, .int .i64 xn, .string xo, .int .i64 xf, .bool xs, .bool xw] 24)).cell? ⟨xb, 4, none⟩ = some (.bool xs) := b0.cell 4
          have e5 : (w8.alloc (.cells #[.int .i64 xa, .int .i64 xn, .string xo, .int .i64 xf, .bool xs, .bool xw] 24)).cell? ⟨xb, 5, none⟩ = some (.bool xw) := b0.cell 5
          have K8 := Lib.hid kk8
          clear k8 kk8 b0 d0 d1
          go_upto_region 17 with fail
          clear e0 e2 e3 e4 e5
          go_wp2_with fail
          go_roundw
          case rel => exact ⟨q + 1, by go_num, by omega, by omega, K8.out⟩
          case measure => simp [intOf]; omega
        · have hfx : shw (fnd L q) = shw (fnd Lb q) := by rw [HFB.out q, if_neg (fun h => hin1 (inA_iff.1 h))]
          have HS1 := Lib.hid hfx
          clear hfx
          by_cases i1 : xa ≤ q
          · have i2 : xa + xn ≤ q := by omega
            clear hin1
            go_wp2_with fail
            refine (shows_any _ A Ab L Lb c cb q (HA.out _ (K4.out.trans KP.out (by simp))) (HLB.out _ (K34.out.trans KP.out (by simp))) (vl_vds HV.out) (vl_vds HVB.out) HS1.out).mono ?_
            rintro e w8 ⟨rfl, k8⟩
            have K8 : Hid (Keeps [] w4 w8) := Lib.hid (KP.out.trans k8 (by simp))
            clear k8 HS1
            go_wp2_with fail
            go_roundw
            case rel => exact ⟨q + 1, by go_num, by omega, by omega, K8.out⟩
            case measure => simp [intOf]; omega
          · clear hin1
            go_wp2_with fail
            refine (shows_any _ A Ab L Lb c cb q (HA.out _ (K4.out.trans KP.out (by simp))) (HLB.out _ (K34.out.trans KP.out (by simp))) (vl_vds HV.out) (vl_vds HVB.out) HS1.out).mono ?_
            rintro e w8 ⟨rfl, k8⟩
            have K8 : Hid (Keeps [] w4 w8) := Lib.hid (KP.out.trans k8 (by simp))
            clear k8 HS1
            go_wp2_with fail
            go_roundw
            case rel => exact ⟨q + 1, by go_num, by omega, by omega, K8.out⟩
            case measure => simp [intOf]; omega
  · have K3 : Hid (Keeps [] W0 w3) := Lib.hid (K2.out.trans k3 (by simp))
    obtain ⟨Ee, hEe⟩ : ∃ Ee, mapE ⟨xa, xn, xo, xf, xs, xw⟩ L = Ee := ⟨_, rfl⟩
    rw [hEe] at hE
    rw [hEe]
    clear k3 K2 hEe
    go_wp2_with fail
    refine (unmap_any w3 A L c pg n (HA.out _ K3.out) (vl_vds HV.out)).mono ?_
    intro e w4 hu
    rcases hu with ⟨hF, v4, rfl, o4⟩ | ⟨hF, rfl, k4⟩
    · obtain ⟨hpn, hvc, hfc1, hfc2⟩ := unm_okay HV.out hF
      obtain ⟨p0, p1, p2, p3⟩ := hpn
      obtain ⟨Lc, hLc⟩ : ∃ Lc, unmA L pg n = Lc := ⟨_, rfl⟩
      rw [hLc] at o4 hvc hfc1 hfc2
      obtain ⟨Ac, cc, rfl⟩ := o4.shape
      have hlc := (vl_chn hvc).2
      have HLC : Hid (∀ W, Keeps [] w4 W → AtL W Ac Lc) := Lib.hid (fun W k => (o4.at_ (by omega)).keep k)
      have K34 : Hid (Keeps [] w3 w4) := Lib.hid o4.2.1
      have HVC := Lib.hid hvc
      have HFC := Lib.hid (And.intro hfc1 hfc2)
      clear o4 hF hLc hvc hfc1 hfc2
      have K4 : Hid (Keeps [] W0 w4) := Lib.hid (K3.out.trans K34.out (by simp))
      go_wp2_with fail
      have cvb := Valid_any w4 A L c (HA.out w4 K4.out)
      rw [HV.out] at cvb
      refine cvb.mono ?_
      clear cvb
      rintro e w5 ⟨rfl, k5⟩
      have K5 := Lib.hid k5
      clear k5
      go_wp2_with fail
      have cvc := Valid_any w5 Ac Lc cc (HLC.out w5 K5.out)
      rw [HVC.out] at cvc
      refine cvc.mono ?_
      clear cvc
      rintro e w6 ⟨rfl, k6⟩
      have K6 := Lib.hid (K5.out.trans k6 (by simp))
      clear k6 K5
      go_wp2_with fail
      refine (same_any w6 A A L c c (HA.out _ (K4.out.trans K6.out (by simp))) (HA.out _ (K4.out.trans K6.out (by simp)))).mono ?_
      rintro e w7 ⟨rfl, k7⟩
      have K7 := Lib.hid (K6.out.trans k7 (by simp))
      clear k7 K6
      obtain ⟨w8, hw8⟩ : ∃ w8, w7 = w8 := ⟨_, rfl⟩
      rw [hw8] at K7
      rw [hw8]
      have K8 := K7
      clear K7 hw8
      go_wp2_with fail
      go_loopw [14] (fun p wr => ∃ q : Int, p = .int .i64 q ∧ -1 ≤ q ∧ q ≤ 257 ∧ Keeps [] w4 wr) (fun p _ => (257 - intOf p).toNat)
      case atStart => exact ⟨-1, rfl, by omega, by omega, K8.out⟩
      case round =>
        obtain ⟨q, rfl, hq0, hq1, kp⟩ := hrel
        have KP := Lib.hid kp
        clear kp K8
        by_cases hq : q ≤ 256
        rotate_left
        · go_wp2_with fail
          go_ret
          exact ⟨rfl, (KX.out.trans K4.out (by simp)).trans KP.out (by simp)⟩
        by_cases hin2 : pg ≤ q ∧ q < pg + n
        · obtain ⟨i1, i2⟩ := hin2
          go_wp2_with fail
          have cf := find_any _ Ac Lc cc q (HLC.out _ KP.out) (vl_vds HVC.out)
          rw [fndV_none (HFC.out.1 q i1 i2), HFC.out.1 q i1 i2] at cf
          unfold Ar.v zA at cf
          refine cf.mono ?_
          clear cf
          rintro e w9 ⟨rfl, k9⟩
          have K9 : Hid (Keeps [] w4 w9) := Lib.hid (KP.out.trans k9 (by simp))
          clear k9
          go_wp2_with fail
          go_roundw
          case rel => exact ⟨q + 1, by go_num, by omega, by omega, K9.out.alloc _⟩
          case measure => simp [intOf]; omega
        · have hs2 := HFC.out.2 q hin2
          have HS2 := Lib.hid hs2
          clear hs2
          by_cases i1 : pg ≤ q
          · have i2 : pg + n ≤ q := by omega
            clear hin2
            go_wp2_with fail
            refine (shows_any _ A Ac L Lc c cc q (HA.out _ (K4.out.trans KP.out (by simp))) (HLC.out _ KP.out) (vl_vds HV.out) (vl_vds HVC.out) HS2.out).mono ?_
            rintro e w9 ⟨rfl, k9⟩
            have K9 : Hid (Keeps [] w4 w9) := Lib.hid (KP.out.trans k9 (by simp))
            clear k9
            go_wp2_with fail
            go_roundw
            case rel => exact ⟨q + 1, by go_num, by omega, by omega, K9.out⟩
            case measure => simp [intOf]; omega
          · clear hin2
            go_wp2_with fail
            refine (shows_any _ A Ac L Lc c cc q (HA.out _ (K4.out.trans KP.out (by simp))) (HLC.out _ KP.out) (vl_vds HV.out) (vl_vds HVC.out) HS2.out).mono ?_
            rintro e w9 ⟨rfl, k9⟩
            have K9 : Hid (Keeps [] w4 w9) := Lib.hid (KP.out.trans k9 (by simp))
            clear k9
            go_wp2_with fail
            go_roundw
            case rel => exact ⟨q + 1, by go_num, by omega, by omega, K9.out⟩
            case measure => simp [intOf]; omega
    · have K34 : Hid (Keeps [] w3 w4) := Lib.hid k4
      obtain ⟨Fe, hFe⟩ : ∃ Fe, unmE L pg n = Fe := ⟨_, rfl⟩
      rw [hFe] at hF
      rw [hFe]
      clear k4 hFe
      have K4 : Hid (Keeps [] W0 w4) := Lib.hid (K3.out.trans K34.out (by simp))
      go_wp2_with fail
      have cvb := Valid_any w4 A L c (HA.out w4 K4.out)
      rw [HV.out] at cvb
      refine cvb.mono ?_
      clear cvb
      rintro e w5 ⟨rfl, k5⟩
      have K5 := Lib.hid k5
      clear k5
      go_wp2_with fail
      have cvc := Valid_any w5 A L c (HA.out w5 (K4.out.trans K5.out (by simp)))
      rw [HV.out] at cvc
      refine cvc.mono ?_
      clear cvc
      rintro e w6 ⟨rfl, k6⟩
      have K6 := Lib.hid (K5.out.trans k6 (by simp))
      clear k6 K5
      go_wp2_with fail
      refine (same_any w6 A A L c c (HA.out _ (K4.out.trans K6.out (by simp))) (HA.out _ (K4.out.trans K6.out (by simp)))).mono ?_
      rintro e w7 ⟨rfl, k7⟩
      have K7 := Lib.hid (K6.out.trans k7 (by simp))
      clear k7 K6
      go_wp2_with fail
      refine (same_any w7 A A L c c (HA.out _ (K4.out.trans K7.out (by simp))) (HA.out _ (K4.out.trans K7.out (by simp)))).mono ?_
      rintro e w8 ⟨rfl, k8⟩
      have K8 := Lib.hid (K7.out.trans k8 (by simp))
      clear k8 K7
      go_wp2_with fail
      go_loopw [14] (fun p wr => ∃ q : Int, p = .int .i64 q ∧ -1 ≤ q ∧ q ≤ 257 ∧ Keeps [] w4 wr) (fun p _ => (257 - intOf p).toNat)
      case atStart => exact ⟨-1, rfl, by omega, by omega, K8.out⟩
      case round =>
        obtain ⟨q, rfl, hq0, hq1, kp⟩ := hrel
        have KP := Lib.hid kp
        clear kp K8
        by_cases hq : q ≤ 256
        rotate_left
        · go_wp2_with fail
          go_ret
          exact ⟨rfl, (KX.out.trans K4.out (by simp)).trans KP.out (by simp)⟩
        go_wp2_with fail
        go_roundw
        case rel => exact ⟨q + 1, by go_num, by omega, by omega, KP.out⟩
        case measure => simp [intOf]; omega
end Go.Proofs.Ytiffjaociblboaa
