/- The walk of AreasTell (printed by x2gen.py). -/
import Derived.Test.YtiffjaociblboaaW23
namespace Go.Proofs.Ytiffjaociblboaa
open Go.RowKit

def mapL (x : Ar) (L : List Ar) : List Ar := if mapE x L = 0 then insA x L else L
def unmL (L : List Ar) (p n : Int) : List Ar := if unmE L p n = 0 then unmA L p n else L
theorem MapP.flat {w w' : World} {A : Option Addr} {L : List Ar} {c : Nat} {x : Ar} {e : Ending} (h : MapP w A L c x e w') (ha : AtL w A L) (hl : L.length ≤ 16) :
    ∃ A1 c1, e = .returned (.tuple #[.slice A1 (mapL x L).length c1, .int .i64 (mapE x L)]) ∧ Keeps [] w w' ∧ AtL w' A1 (mapL x L) := by
  unfold mapL
  rcases h with ⟨h1, v, rfl, o⟩ | ⟨h1, rfl, k⟩
  · rw [if_pos h1, h1]
    obtain ⟨A1, c1, rfl⟩ := o.shape
    exact ⟨A1, c1, rfl, o.2.1, o.at_ (by rw [insA_len]; omega)⟩
  · rw [if_neg h1]
    exact ⟨A, c, rfl, k, ha.keep k⟩
theorem unm_len2 : ∀ (L : List Ar) (p n : Int), (unmA L p n).length ≤ 2 * L.length
  | [], p, n => by simp [unmA]
  | x :: r, p, n => by
    have h1 := unm_len2 r p n
    have h2 := cut_len p (p + n) x
    rw [unm_cons, List.length_append, List.length_cons]
    omega
theorem UnmP.flat {w w' : World} {A : Option Addr} {L : List Ar} {c : Nat} {p n : Int} {e : Ending} (h : UnmP w A L c p n e w') (ha : AtL w A L) (hl : L.length ≤ 16) :
    ∃ A1 c1, e = .returned (.tuple #[.slice A1 (unmL L p n).length c1, .int .i64 (unmE L p n)]) ∧ Keeps [] w w' ∧ AtL w' A1 (unmL L p n) := by
  unfold unmL
  rcases h with ⟨h1, v, rfl, o⟩ | ⟨h1, rfl, k⟩
  · rw [if_pos h1, h1]
    obtain ⟨A1, c1, rfl⟩ := o.shape
    exact ⟨A1, c1, rfl, o.2.1, o.at_ (by have := unm_len2 L p n; omega)⟩
  · rw [if_neg h1]
    exact ⟨A, c, rfl, k, ha.keep k⟩
theorem can_big {L : List Ar} {a n : Int} {wr : Bool} (h : 20000 < n) : canB L a n wr = false := by
  unfold canB
  rw [if_neg (by omega), if_neg (by omega), if_neg (by unfold canR; simp; omega)]
set_option maxRecDepth 1000000 in
set_option maxHeartbeats 12800000 in
theorem tell_walk (w : World) (A : Option Addr) (c : Nat) (L : List Ar) (x : Ar) (pg n at_ : Int) (wb : Bool) (h : AtB w A L) :
    Calls Try.prog 5 #[.slice A L.length c, x.v, .int .i64 pg, .int .i64 n, .int .i64 at_, .bool wb] w fun e w' => e = .returned (.bool true) ∧ Keeps [] w w' := by
  obtain ⟨xa, xn, xo, xf, xs, xw⟩ := x
  unfold Ar.v
  dsimp only
  have HB := Lib.hid h
  have hmx := h.mx
  obtain ⟨N, hN⟩ : ∃ N, nmd L = N := ⟨_, rfl⟩
  have HN := Lib.hid hN
  have HX : Hid (∀ W, Keeps [] (w.alloc (.cells #[.int .i64 xa, .int .i64 xn, .string xo, .int .i64 xf, .bool xs, .bool xw] 24)) W → Blk W w.heap.size 24 #[.int .i64 xa, .int .i64 xn, .string xo, .int .i64 xf, .bool xs, .bool xw]) := Lib.hid (fun W k => (Blk.new w 24 _).keep k (by simp))
  have KX : Hid (Keeps [] w (w.alloc (.cells #[.int .i64 xa, .int .i64 xn, .string xo, .int .i64 xf, .bool xs, .bool xw] 24))) := Lib.hid ((Keeps.refl [] w).alloc _)
  clear h hN
  go_enter Try.func5, Try.ntmps5
  go_wp2_with fail
  refine (small_any _).mono ?_
  rintro e w1 ⟨rfl, k1⟩
  have K1 := Lib.hid k1
  clear k1
  go_wp2_with fail
  have cn := named_big w1 A L c (HB.out.keep (KX.out.trans K1.out (by simp)))
  rw [HN.out] at cn
  refine cn.mono ?_
  clear cn
  rintro e w1' ⟨rfl, rfl⟩
  have b0 := HX.out w1 K1.out
  have c2 : w1.cell? ⟨w.heap.size, 2, none⟩ = some (.string xo) := b0.cell 2
  clear b0
  cases N with
  | false =>
    go_wp2_with fail
    go_ret
    exact ⟨rfl, KX.out.trans K1.out (by simp)⟩
  | true =>
  by_cases hxo : xo.size ≤ 20
  rotate_left
  · go_wp2_with fail
    go_ret
    exact ⟨rfl, KX.out.trans K1.out (by simp)⟩
  have hl20 := nmd_len HN.out
  obtain ⟨V, hV⟩ : ∃ V, Vl L = V := ⟨_, rfl⟩
  have HV := Lib.hid hV
  obtain ⟨W0, hW0⟩ : ∃ W0, w.alloc (.cells #[.int .i64 xa, .int .i64 xn, .string xo, .int .i64 xf, .bool xs, .bool xw] 24) = W0 := ⟨_, rfl⟩
  rw [hW0] at HX KX K1
  obtain ⟨xb, hxb⟩ : ∃ xb, w.heap.size = xb := ⟨_, rfl⟩
  rw [hxb] at HX c2
  rw [hxb]
  have HA : Hid (∀ W, Keeps [] W0 W → AtL W A L) := Lib.hid (fun W k => (HB.out.keep (KX.out.trans k (by simp))).atL (by have := nmd_len HN.out; omega))
  clear hV HB hW0 hxb
  go_wp2_with fail
  clear c2
  have cv := Valid_any w1 A L c (HA.out _ K1.out)
  rw [HV.out] at cv
  refine cv.mono ?_
  clear cv
  rintro e w2 ⟨rfl, k2⟩
  have K2 : Hid (Keeps [] W0 w2) := Lib.hid (K1.out.trans k2 (by simp))
  clear k2 K1
  go_wp2_with fail
  have cv := rValid_any w2 A L c (HA.out _ K2.out)
  rw [HV.out] at cv
  refine cv.mono ?_
  clear cv
  rintro e w3 ⟨rfl, k3⟩
  have K3 : Hid (Keeps [] W0 w3) := Lib.hid (K2.out.trans k3 (by simp))
  clear k3 K2
  cases V with
  | false =>
    go_wp2_with fail
    have cv := rValid_any w3 A L c (HA.out _ K3.out)
    rw [HV.out] at cv
    refine cv.mono ?_
    clear cv
    rintro e w4 ⟨rfl, k4⟩
    have K4 : Hid (Keeps [] W0 w4) := Lib.hid (K3.out.trans k4 (by simp))
    clear k4 K3
    go_wp2_with fail
    go_ret
    exact ⟨rfl, KX.out.trans K4.out (by simp)⟩
  | true =>
  go_wp2_with fail
  have cv := rValid_any w3 A L c (HA.out _ K3.out)
  rw [HV.out] at cv
  refine cv.mono ?_
  clear cv
  rintro e w4 ⟨rfl, k4⟩
  have K4 : Hid (Keeps [] W0 w4) := Lib.hid (K3.out.trans k4 (by simp))
  clear k4 K3
  have hl16 := (vl_chn HV.out).2
  have b0 := HX.out w4 K4.out
  have d0 : w4.cell? ⟨xb, 0, none⟩ = some (.int .i64 xa) := b0.cell 0
  have d1 : w4.cell? ⟨xb, 1, none⟩ = some (.int .i64 xn) := b0.cell 1
  have d2 : w4.cell? ⟨xb, 2, none⟩ = some (.string xo) := b0.cell 2
  have d3 : w4.cell? ⟨xb, 3, none⟩ = some (.int .i64 xf) := b0.cell 3
  have d4 : w4.cell? ⟨xb, 4, none⟩ = some (.bool xs) := b0.cell 4
  have d5 : w4.cell? ⟨xb, 5, none⟩ = some (.bool xw) := b0.cell 5
  clear b0
  go_wp2_with fail
  refine (map_any w4 A L c ⟨xa, xn, xo, xf, xs, xw⟩ (HA.out _ K4.out) (vl_vds HV.out)).mono ?_
  clear d0 d1 d2 d3 d4 d5
  intro e w5 hm
  obtain ⟨A1, c1, rfl, k5, at1⟩ := hm.flat (HA.out _ K4.out) hl16
  clear hm
  obtain ⟨Lb, hLb⟩ : ∃ Lb, mapL ⟨xa, xn, xo, xf, xs, xw⟩ L = Lb := ⟨_, rfl⟩
  obtain ⟨Ee, hEe⟩ : ∃ Ee, mapE ⟨xa, xn, xo, xf, xs, xw⟩ L = Ee := ⟨_, rfl⟩
  rw [hLb] at at1
  rw [hLb, hEe]
  have HLE := Lib.hid (And.intro hLb hEe)
  have K5 : Hid (Keeps [] W0 w5) := Lib.hid (K4.out.trans k5 (by simp))
  have AT1 := Lib.hid at1
  clear k5 K4 hLb hEe at1
  have b0 := HX.out w5 K5.out
  have d0 : w5.cell? ⟨xb, 0, none⟩ = some (.int .i64 xa) := b0.cell 0
  have d1 : w5.cell? ⟨xb, 1, none⟩ = some (.int .i64 xn) := b0.cell 1
  have d2 : w5.cell? ⟨xb, 2, none⟩ = some (.string xo) := b0.cell 2
  have d3 : w5.cell? ⟨xb, 3, none⟩ = some (.int .i64 xf) := b0.cell 3
  have d4 : w5.cell? ⟨xb, 4, none⟩ = some (.bool xs) := b0.cell 4
  have d5 : w5.cell? ⟨xb, 5, none⟩ = some (.bool xw) := b0.cell 5
  clear b0
  go_wp2_with fail
  refine (rmap_any w5 A L c ⟨xa, xn, xo, xf, xs, xw⟩ (HA.out _ K5.out) HV.out).mono ?_
  clear d0 d1 d2 d3 d4 d5
  intro e w6 hm
  obtain ⟨A2, c2, rfl, k6, at2⟩ := hm.flat (HA.out _ K5.out) hl16
  clear hm
  rw [HLE.out.1] at at2
  rw [HLE.out.1, HLE.out.2]
  have K56 : Hid (Keeps [] w5 w6) := Lib.hid k6
  have K6 : Hid (Keeps [] W0 w6) := Lib.hid (K5.out.trans k6 (by simp))
  have AT2 := Lib.hid at2
  clear k6 K5 at2
  go_wp2_with fail
  refine (unmap_any w6 A L c pg n (HA.out _ K6.out) (vl_vds HV.out)).mono ?_
  intro e w7 hm
  obtain ⟨A3, c3, rfl, k7, at3⟩ := hm.flat (HA.out _ K6.out) hl16
  clear hm
  obtain ⟨Lc, hLc⟩ : ∃ Lc, unmL L pg n = Lc := ⟨_, rfl⟩
  obtain ⟨Fe, hFe⟩ : ∃ Fe, unmE L pg n = Fe := ⟨_, rfl⟩
  rw [hLc] at at3
  rw [hLc, hFe]
  have HLF := Lib.hid (And.intro hLc hFe)
  have K67 : Hid (Keeps [] w6 w7) := Lib.hid k7
  have K7 : Hid (Keeps [] W0 w7) := Lib.hid (K6.out.trans k7 (by simp))
  have AT3 := Lib.hid at3
  clear k7 K6 hLc hFe at3
  go_wp2_with fail
  refine (runmap_any w7 A L c pg n (HA.out _ K7.out) (vl_vds HV.out)).mono ?_
  intro e w8 hm
  obtain ⟨A4, c4, rfl, k8, at4⟩ := hm.flat (HA.out _ K7.out) hl16
  clear hm
  rw [HLF.out.1] at at4
  rw [HLF.out.1, HLF.out.2]
  have K78 : Hid (Keeps [] w7 w8) := Lib.hid k8
  have K8 : Hid (Keeps [] W0 w8) := Lib.hid (K7.out.trans k8 (by simp))
  have AT4 := Lib.hid at4
  clear k8 K7 at4
  go_wp2_with fail
  refine (same_any w8 A1 A2 Lb c1 c2 (AT1.out.keep (K56.out.trans (K67.out.trans K78.out (by simp)) (by simp))) (AT2.out.keep (K67.out.trans K78.out (by simp)))).mono ?_
  rintro e w9 ⟨rfl, k9⟩
  have K89 : Hid (Keeps [] w8 w9) := Lib.hid k9
  have K9 : Hid (Keeps [] W0 w9) := Lib.hid (K8.out.trans k9 (by simp))
  clear k9 K8
  go_wp2_with fail
  refine (same_any w9 A3 A4 Lc c3 c4 (AT3.out.keep (K78.out.trans K89.out (by simp))) (AT4.out.keep K89.out)).mono ?_
  rintro e w10 ⟨rfl, k10⟩
  have K10 : Hid (Keeps [] W0 w10) := Lib.hid (K9.out.trans k10 (by simp))
  clear k10 K9 AT1 AT2 AT3 AT4 K56 K67 K78 K89 HLE HLF
  obtain ⟨Z, hZ⟩ : ∃ Z, fndV L pg = Z := ⟨_, rfl⟩
  obtain ⟨Fb, hFb⟩ : ∃ Fb, (fnd L pg).isSome = Fb := ⟨_, rfl⟩
  have HZF := Lib.hid (And.intro hZ hFb)
  clear hZ hFb
  obtain ⟨za, zn, zo, zf, zs, zw⟩ := Z
  go_wp2_with fail
  have cf := find_any w10 A L c pg (HA.out _ K10.out) (vl_vds HV.out)
  rw [HZF.out.1, HZF.out.2] at cf
  unfold Ar.v at cf
  refine cf.mono ?_
  clear cf
  rintro e w11 ⟨rfl, k11⟩
  have K11 : Hid (Keeps [] W0 (w11.alloc (.cells #[.int .i64 za, .int .i64 zn, .string zo, .int .i64 zf, .bool zs, .bool zw] 24))) := Lib.hid ((K10.out.trans k11 (by simp)).alloc _)
  clear k11 K10
  go_wp2_with fail
  obtain ⟨yb, hyb⟩ : ∃ yb, w11.heap.size = yb := ⟨_, rfl⟩
  obtain ⟨w12, hw12⟩ : ∃ w12, w11.alloc (.cells #[.int .i64 za, .int .i64 zn, .string zo, .int .i64 zf, .bool zs, .bool zw] 24) = w12 := ⟨_, rfl⟩
  have BY : Hid (Blk w12 yb 24 #[.int .i64 za, .int .i64 zn, .string zo, .int .i64 zf, .bool zs, .bool zw]) := Lib.hid (by rw [← hw12, ← hyb]; exact Blk.new _ _ _)
  rw [hw12] at K11
  rw [hw12, hyb]
  clear hw12 hyb
  have cf := rfind_any w12 A L c pg (HA.out _ K11.out) (vl_vds HV.out)
  rw [HZF.out.1, HZF.out.2] at cf
  unfold Ar.v at cf
  refine cf.mono ?_
  clear cf
  rintro e w13 ⟨rfl, k13⟩
  have K12 : Hid (Keeps [] w12 (w13.alloc (.cells #[.int .i64 za, .int .i64 zn, .string zo, .int .i64 zf, .bool zs, .bool zw] 24))) := Lib.hid (k13.alloc _)
  clear k13 HZF
  go_wp2_with fail
  obtain ⟨ub, hub⟩ : ∃ ub, w13.heap.size = ub := ⟨_, rfl⟩
  obtain ⟨w14, hw14⟩ : ∃ w14, w13.alloc (.cells #[.int .i64 za, .int .i64 zn, .string zo, .int .i64 zf, .bool zs, .bool zw] 24) = w14 := ⟨_, rfl⟩
  have BU : Hid (Blk w14 ub 24 #[.int .i64 za, .int .i64 zn, .string zo, .int .i64 zf, .bool zs, .bool zw]) := Lib.hid (by rw [← hw14, ← hub]; exact Blk.new _ _ _)
  rw [hw14] at K12
  rw [hw14, hub]
  clear hw14 hub
  obtain ⟨P, hP⟩ : ∃ P, (freeV L n).1 = P := ⟨_, rfl⟩
  obtain ⟨B, hB⟩ : ∃ B, (freeV L n).2 = B := ⟨_, rfl⟩
  have HPB := Lib.hid (And.intro hP hB)
  clear hP hB
  have cf := free_any w14 A L c n (HA.out _ (K11.out.trans K12.out (by simp))) (vl_vds HV.out)
  rw [HPB.out.1, HPB.out.2] at cf
  refine cf.mono ?_
  clear cf
  rintro e w15 ⟨rfl, k15⟩
  have K15 : Hid (Keeps [] w14 w15) := Lib.hid k15
  clear k15
  go_wp2_with fail
  have cf := rfree_any w15 A L c n 0 (HA.out _ ((K11.out.trans K12.out (by simp)).trans K15.out (by simp))) (vl_vds HV.out) (vl_chn HV.out).1
  rw [HPB.out.1, HPB.out.2] at cf
  refine cf.mono ?_
  clear cf
  rintro e w16 ⟨rfl, k16⟩
  have K16 : Hid (Keeps [] w14 w16) := Lib.hid (K15.out.trans k16 (by simp))
  have by0 := BY.out.keep (K12.out.trans K16.out (by simp)) (by simp)
  have bu0 := BU.out.keep K16.out (by simp)
  have y0 : w16.cell? ⟨yb, 0, none⟩ = some (.int .i64 za) := by0.cell 0
  have y1 : w16.cell? ⟨yb, 1, none⟩ = some (.int .i64 zn) := by0.cell 1
  have y2 : w16.cell? ⟨yb, 2, none⟩ = some (.string zo) := by0.cell 2
  have y3 : w16.cell? ⟨yb, 3, none⟩ = some (.int .i64 zf) := by0.cell 3
  have y4 : w16.cell? ⟨yb, 4, none⟩ = some (.bool zs) := by0.cell 4
  have y5 : w16.cell? ⟨yb, 5, none⟩ = some (.bool zw) := by0.cell 5
  have t0 : w16.cell? ⟨ub, 0, none⟩ = some (.int .i64 za) := bu0.cell 0
  have t1 : w16.cell? ⟨ub, 1, none⟩ = some (.int .i64 zn) := bu0.cell 1
  have t2 : w16.cell? ⟨ub, 2, none⟩ = some (.string zo) := bu0.cell 2
  have t3 : w16.cell? ⟨ub, 3, none⟩ = some (.int .i64 zf) := bu0.cell 3
  have t4 : w16.cell? ⟨ub, 4, none⟩ = some (.bool zs) := bu0.cell 4
  have t5 : w16.cell? ⟨ub, 5, none⟩ = some (.bool zw) := bu0.cell 5
  have K0 : Hid (Keeps [] W0 w16) := Lib.hid ((K11.out.trans K12.out (by simp)).trans K16.out (by simp))
  clear k16 K15 HPB by0 bu0 BY BU K11 K12 K16
  go_wp2_with fail
  refine (private_any w16 A L c (HA.out _ K0.out)).mono ?_
  rintro e w17 ⟨v17, rfl, o17⟩
  have K17 : Hid (Keeps [] W0 w17) := Lib.hid (K0.out.trans o17.2.1 (by simp))
  have hpl : (pri L).length ≤ 1000000 := Nat.le_trans (List.length_filter_le _ _) (by omega)
  obtain ⟨A5, c5, rfl⟩ := o17.shape
  have AT5 := Lib.hid (o17.at_ hpl)
  clear o17 K0
  go_wp2_with fail
  refine (rprivate_any w17 A L c (HA.out _ K17.out)).mono ?_
  rintro e w18 ⟨v18, rfl, o18⟩
  have K1718 : Hid (Keeps [] w17 w18) := Lib.hid o18.2.1
  have K18 : Hid (Keeps [] W0 w18) := Lib.hid (K17.out.trans o18.2.1 (by simp))
  obtain ⟨A6, c6, rfl⟩ := o18.shape
  have AT6 := Lib.hid (o18.at_ hpl)
  clear o18 K17 hpl
  go_wp2_with fail
  refine (same_any w18 A5 A6 (pri L) c5 c6 (AT5.out.keep K1718.out) AT6.out).mono ?_
  rintro e w19 ⟨rfl, k19⟩
  have K19 : Hid (Keeps [] W0 w19) := Lib.hid (K18.out.trans k19 (by simp))
  clear k19 K18 K1718 AT5 AT6
  obtain ⟨C, hC⟩ : ∃ C, canB L at_ n wb = C := ⟨_, rfl⟩
  have HC := Lib.hid hC
  clear hC
  by_cases hbig : 20000 < n
  · have eC : C = false := by rw [← HC.out]; exact can_big hbig
    go_wp2_with fail
    have cf := can_any w19 A L c at_ n wb (HA.out _ K19.out) (vl_vds HV.out)
    rw [HC.out, eC] at cf
    refine cf.mono ?_
    clear cf
    rintro e w20 ⟨rfl, k20⟩
    have K20 : Hid (Keeps [] w w20) := Lib.hid (KX.out.trans (K19.out.trans k20 (by simp)) (by simp))
    clear k20 K19
    have hn0 : ¬ n ≤ 0 := by omega
    go_wp2_with fail
    go_ret
    exact ⟨ret_bool (by simp; omega), K20.out⟩
  · go_wp2_with fail
    have cf := can_any w19 A L c at_ n wb (HA.out _ K19.out) (vl_vds HV.out)
    rw [HC.out] at cf
    refine cf.mono ?_
    clear cf
    rintro e w20 ⟨rfl, k20⟩
    have K20 : Hid (Keeps [] W0 w20) := Lib.hid (K19.out.trans k20 (by simp))
    clear k20 K19
    go_wp2_with fail
    have cf := rcan_any w20 A L c at_ n wb (HA.out _ K20.out) (vl_vds HV.out)
    rw [HC.out] at cf
    refine cf.mono ?_
    clear cf
    rintro e w21 ⟨rfl, k21⟩
    have K21 : Hid (Keeps [] w w21) := Lib.hid (KX.out.trans (K20.out.trans k21 (by simp)) (by simp))
    clear k21 K20
    go_wp2_with fail
    go_ret
    exact ⟨rfl, K21.out⟩
end Go.Proofs.Ytiffjaociblboaa
