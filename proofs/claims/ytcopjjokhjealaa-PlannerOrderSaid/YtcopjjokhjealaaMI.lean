/- The texts P6, W53, W54 in one. -/
import Derived.Test.YtcopjjokhjealaaMG
import Derived.Test.YtcopjjokhjealaaMH
namespace Go.Proofs.Ytcopjjokhjealaa
open Go.RowKit

theorem ord_com {x : Op} {s s' : Pl} {o : List Int} {n : Int} (hv : Inv NoR s) (h : DoR x s s' o n 0) (hk : dk x = 6) : ∃ t, oldV s x.l = some (x.i, t) ∧ ¬ witP s t := by
  generalize he : (0 : Int) = e at h
  cases h with
  | fin h => omega
  | con h _ => omega
  | drp h _ => omega
  | gon h _ => omega
  | nes h _ => omega
  | ahn h _ => omega
  | ahb h _ => omega
  | beg h => omega
  | com h hr =>
    rcases hr with ⟨-, -, -, h4⟩ | ⟨k, r, m, y, h1, h2, h3, h4, h5⟩
    · omega
    rcases h5 with ⟨-, -, -, h⟩ | ⟨-, -, -, -, h⟩ | ⟨-, -, -, -, -, h⟩ | ⟨-, -, -, -, -, -, h⟩ | ⟨hy, hd, hw, -⟩
    · omega
    · omega
    · omega
    · omega
    subst hy
    refine ⟨r.t, ?_, ?_⟩
    · unfold oldV
      rw [h3]
      dsimp only
      cases hi : m.it with
      | nil => rw [hi] at h4; cases h4
      | cons a b =>
        rw [hi] at h4
        injection h4 with h4
        subst h4
        show oldY s x.l x.i = _
        unfold oldY
        rw [h1, if_neg (by omega)]
        have : ((k : Int)).toNat = k := by omega
        rw [this, h2]
        dsimp only
        rw [if_pos hd]
    · rintro ⟨z, q, hz, hq⟩
      have hid := hv.c.id z q hz
      have hr1 : 1 ≤ r.t := hv.c.t1 r (List.mem_of_getElem? h2)
      by_cases hz0 : z = 0
      · subst hz0
        obtain ⟨q', g1, g2⟩ := hv.c.z
        rw [hz] at g1
        injection g1 with g1
        subst g1
        omega
      · have : z ∈ ([] : List Int) := (hw.2 z).2 ⟨by omega, q, hz, hq⟩
        cases this
theorem beg_ah {s : Pl} {l y t : Int} (h : begE s l y t = 0) : (begS s l y t).li = s.li ++ [⟨l, y, t, false⟩] ∧ y ∈ cmgV s l ∧ ∃ a, aheadV s l = some a := by
  obtain ⟨n, h1, h2, h3, h4, h5, h6⟩ := beg_spec h
  refine ⟨?_, ?_, ?_⟩
  · unfold begS; rw [if_pos h]; rfl
  · unfold cmgV; rw [h1]; exact h3
  · unfold aheadV
    rw [h1]
    dsimp only
    rw [if_neg (by omega)]
    have : (n.it.find? (fun i => decide (fndI s.li l i < 0))).isSome = true := by
      rw [List.find?_isSome]
      exact ⟨y, h3, by simpa using h4⟩
    exact Option.isSome_iff_exists.1 this
theorem ord_beg {x : Op} {s s' : Pl} {o : List Int} {n : Int} (h : DoR x s s' o n 0) (hk : dk x < 4 ∨ 12 ≤ dk x) : ∃ y a, s'.li = s.li ++ [⟨x.l, y, x.t, false⟩] ∧ y ∈ cmgV s x.l ∧ aheadV s x.l = some a ∧ (12 ≤ dk x → a = y) := by
  generalize he : (0 : Int) = e at h
  cases h with
  | fin h => omega
  | com h _ => omega
  | con h _ => omega
  | drp h _ => omega
  | gon h _ => omega
  | nes h _ => omega
  | ahn h _ => omega
  | ahb h ha =>
    obtain ⟨h1, h2, -⟩ := beg_ah he.symm
    exact ⟨_, _, h1, h2, ha, fun _ => rfl⟩
  | beg h =>
    obtain ⟨h1, h2, a, ha⟩ := beg_ah he.symm
    exact ⟨_, a, h1, h2, ha, fun h' => by omega⟩
end Go.Proofs.Ytcopjjokhjealaa
namespace Go.Proofs.Ytcopjjokhjealaa
open Go.RowKit

noncomputable def ord23C : Code := ((Try.f5.body.bind (theRegion 23)).getD .skip)
set_option maxRecDepth 1000000 in
set_option maxHeartbeats 3200000 in
theorem ord23_any (w : World) (A18 : Option Addr) (b1 o1 n1 c1 k b3 o3 n3 c3 b17 n18 c18 : Nat) (l y : Int) (K : Exit → Act → World → Prop)
    (hn : 0 < n3) (c17a : w.cell? ⟨b17, 0, none⟩ = some (.int .i64 l)) (c17b : w.cell? ⟨b17, 1, none⟩ = some (.int .i64 y)) (c17d : w.cell? ⟨b17, 3, none⟩ = some (.bool false)) (c1l : w.cell? ⟨b1, o1 + k * 6 + 1, none⟩ = some (.int .i64 l)) (i1 : (k : Int) < n1)
    (hC : ∀ m, Calls Try.prog 20 #[.slice A18 n18 c18, .int .i64 y] (w.drewN m) fun e w' => e = .returned (.bool true) ∧ w' = w.drewN m)
    (u0 u2 u3 u4 u5 u6 u8 u9 u10 u11 u12 u13 u14 u15 u19 u20 u21 u22 u23 u24 u25 u26 u27 u28 u29 u30 u31 u32 u33 u34 u35 u36 u37 u38 u39 u40 u41 u42 u43 u44 u45 u46 u47 u48 u49 u50 u51 u52 u53 u54 u55 u56 u57 u58 u59 u60 u61 u62 u63 u64 u65 u66 u67 u68 u69 u70 u71 u72 u73 u74 u75 u76 u77 u78 u79 u80 u81 u82 u83 u84 u85 u86 u87 u88 u89 u90 u91 u92 u93 u94 u95 u96 u97 u98 u99 u100 u101 u102 u103 u104 u105 u106 u107 u108 u109 u110 u111 u112 u113 u114 u115 u116 u117 u118 u119 u120 u121 u122 u123 u124 u125 u126 u127 u128 u129 u130 u131 u132 u133 u134 u135 u136 u137 u138 u139 u140 u141 u142 u143 u144 u145 u146 u147 u148 u149 u150 u151 u152 u153 u154 u155 u156 u157 u158 u159 u160 u161 u162 u163 u164 u165 u166 u167 u168 u169 : Value)
    (hK : ∀ (v120 v121 v122 v123 v124 v125 v126 v127 v128 v129 v130 v131 v132 v133 v134 v135 v136 v137 v138 v139 v140 v141 v142 : Value) (nq : Nat), K .normal ⟨#[u0, .slice (some ⟨b1, o1, none⟩) n1 c1, u2, u3, u4, u5, u6, .int .i64 (k : Nat), u8, u9, u10, u11, u12, u13, u14, u15, .slice (some ⟨b3, o3, none⟩) n3 c3, .pointer (some ⟨b17, 0, none⟩), .slice A18 n18 c18, u19, u20, u21, u22, u23, u24, u25, u26, u27, u28, u29, u30, u31, u32, u33, u34, u35, u36, u37, u38, u39, u40, u41, u42, u43, u44, u45, u46, u47, u48, u49, u50, u51, u52, u53, u54, u55, u56, u57, u58, u59, u60, u61, u62, u63, u64, u65, u66, u67, u68, u69, u70, u71, u72, u73, u74, u75, u76, u77, u78, u79, u80, u81, u82, u83, u84, u85, u86, u87, u88, u89, u90, u91, u92, u93, u94, u95, u96, u97, u98, u99, u100, u101, u102, u103, u104, u105, u106, u107, u108, u109, u110, u111, u112, u113, u114, u115, u116, u117, u118, u119, v120, v121, v122, v123, v124, v125, v126, v127, v128, v129, v130, v131, v132, v133, v134, v135, v136, v137, v138, v139, v140, v141, v142, .bool false, u144, u145, u146, u147, u148, u149, u150, u151, u152, u153, u154, u155, u156, u157, u158, u159, u160, u161, u162, u163, u164, u165, u166, u167, u168, u169], []⟩ (w.drewN nq)) :
    Code.wp Try.prog ord23C K ⟨#[u0, .slice (some ⟨b1, o1, none⟩) n1 c1, u2, u3, u4, u5, u6, .int .i64 (k : Nat), u8, u9, u10, u11, u12, u13, u14, u15, .slice (some ⟨b3, o3, none⟩) n3 c3, .pointer (some ⟨b17, 0, none⟩), .slice A18 n18 c18, u19, u20, u21, u22, u23, u24, u25, u26, u27, u28, u29, u30, u31, u32, u33, u34, u35, u36, u37, u38, u39, u40, u41, u42, u43, u44, u45, u46, u47, u48, u49, u50, u51, u52, u53, u54, u55, u56, u57, u58, u59, u60, u61, u62, u63, u64, u65, u66, u67, u68, u69, u70, u71, u72, u73, u74, u75, u76, u77, u78, u79, u80, u81, u82, u83, u84, u85, u86, u87, u88, u89, u90, u91, u92, u93, u94, u95, u96, u97, u98, u99, u100, u101, u102, u103, u104, u105, u106, u107, u108, u109, u110, u111, u112, u113, u114, u115, u116, u117, u118, u119, u120, u121, u122, u123, u124, u125, u126, u127, u128, u129, u130, u131, u132, u133, u134, u135, u136, u137, u138, u139, u140, u141, u142, u143, u144, u145, u146, u147, u148, u149, u150, u151, u152, u153, u154, u155, u156, u157, u158, u159, u160, u161, u162, u163, u164, u165, u166, u167, u168, u169], []⟩ w := by
  have i0 : (0 : Int) ≤ (k : Int) := by omega
  have hz : ¬ (n3 : Int) = 0 := by omega
  have hz2 : ((n3 : Int) == 0) = false := by simp; omega
  have hl2 : (l != l) = false := by simp
  have HC := Lib.hid hC
  clear hC
  conv => arg 2; whnf
  dsimp only at hK ⊢
  go_quiet (first
    | (go_at_call 20; refine (HC.out _).mono ?_; rintro e w10 ⟨h1, h2⟩; exact ⟨h1, _, h2⟩))
  exact hK _ _ _ _ _ _ _ _ _ _ _ _ _ _ _ _ _ _ _ _ _ _ _ nq
end Go.Proofs.Ytcopjjokhjealaa
namespace Go.Proofs.Ytcopjjokhjealaa
open Go.RowKit

theorem wrap_small {m : Nat} (h : m ≤ 800) : wrap64 (m : Int) = m := by unfold wrap64; omega
theorem max_nat (m : Nat) : max (m : Int) 0 = m := by omega
set_option maxRecDepth 1000000 in
set_option maxHeartbeats 25600000 in
theorem order_walk (w : World) (A B : Option Addr) (its : List Int) (L : List Op) (ca cb : Nat) (hi : ItsAt w A its) (ho : OpsAt w B L) :
    Calls Try.prog 5 #[.slice A its.length ca, .slice B L.length cb] w fun e w' => e = .returned (.bool true) ∧ Keeps [] w w' := by
  have HI := Lib.hid hi
  have HO := Lib.hid ho
  have mi := hi.mx
  have CS := Lib.hid (small_any w)
  clear hi ho
  go_enter Try.func5, Try.ntmps5
  go_wp2_with fail
  refine CS.out.mono ?_
  rintro e w1 ⟨rfl, k1⟩
  have K1 := Lib.hid k1
  have hao := HO.out.at_.keep k1
  have CF := Lib.hid (few_any w1 B L cb 60 hao)
  have mo := hao.mx
  obtain ⟨V, hV⟩ : ∃ V, fewB L 60 = V := ⟨_, rfl⟩
  rw [hV] at CF
  have HV := Lib.hid hV
  clear hao k1 CS hV
  cases V with
  | false =>
    go_wp2_with fail
    refine CF.out.mono ?_
    rintro e w2 ⟨rfl, rfl⟩
    go_wp2_with fail
    go_ret
    exact ⟨rfl, K1.out⟩
  | true =>
    by_cases hbig : 60 < its.length
    · have hb2 : (60 : Int) < (its.length : Int) := by omega
      go_wp2_with fail
      refine CF.out.mono ?_
      rintro e w2 ⟨rfl, rfl⟩
      go_wp2_with fail
      go_ret
      exact ⟨rfl, K1.out⟩
    · have hb2 : ¬ (60 : Int) < (its.length : Int) := by omega
      obtain ⟨hz, hir⟩ := HI.out.ok (by omega)
      have CN := Lib.hid (new_sv w w1 K1.out A its ca (hz.keep K1.out) hir)
      obtain ⟨hl60, hfew⟩ := few_spec HV.out
      have HFW := Lib.hid hfew
      clear hz hir hfew HI
      go_wp2_with fail
      refine CF.out.mono ?_
      rintro e w2 ⟨rfl, rfl⟩
      go_wp2_with fail
      refine CN.out.mono ?_
      rintro e w3 ⟨F0, p, rfl, hs, -, -⟩
      have H0 := Lib.hid hs
      clear hs CN CF K1
      go_wp2_with fail
      go_loopw [7] (fun iv wr => ∃ k : Nat, k ≤ L.length ∧ iv = .int .i64 k ∧ ∃ F s, SV w wr F p s (1 + 2 * k)) (fun iv _ => L.length - (intOf iv).toNat)
      case atStart => exact ⟨0, by omega, rfl, F0, newS its, H0.out⟩
      case round =>
        obtain ⟨k, hk, rfl, F, s, hs⟩ := hrel
        have HS := Lib.hid hs
        clear hs H0
        by_cases hlt : k < L.length
        · obtain ⟨bl, off, hBB, hbl, hc⟩ := (HO.out.at_.keep HS.out.k).at_ (by omega)
          subst hBB
          obtain ⟨c0, c1, c2, c3, c4, c5⟩ := hc k hlt
          have i0 : (0 : Int) ≤ (k : Int) := by omega
          have i1 : (k : Int) < (L.length : Int) := by omega
          have hx := HO.out.ok L[k] (List.getElem_mem hlt) (by have := HFW.out L[k] (List.getElem_mem hlt); omega)
          have CC := Lib.hid (copy_sv HS.out (by omega))
          obtain ⟨x, hxx⟩ : ∃ x, L[k] = x := ⟨_, rfl⟩
          rw [hxx] at c0 c1 c2 c3 c4 c5 hx
          have HX := Lib.hid hx
          have HB : Hid (∀ W, Keeps [] w W → W.cell? ⟨bl, off + k * 6, none⟩ = some (.int .i64 x.d) ∧ W.cell? ⟨bl, off + k * 6 + 1, none⟩ = some (.int .i64 x.l) ∧ W.cell? ⟨bl, off + k * 6 + 2, none⟩ = some (.int .i64 x.i) ∧
              W.cell? ⟨bl, off + k * 6 + 3, none⟩ = some (.int .i64 x.t) ∧ W.cell? ⟨bl, off + k * 6 + 4, none⟩ = some (.int .i64 x.pd) ∧ W.cell? ⟨bl, off + k * 6 + 5, none⟩ = some (.slice x.A x.it.length x.c)) := Lib.hid (by
            intro W hW
            obtain ⟨bl', off', hBB', hbl', hc'⟩ := (HO.out.at_.keep hW).at_ (by omega)
            injection hBB' with hBB'
            injection hBB' with e1 e2
            subst e1 e2
            have := hc' k hlt
            rw [hxx] at this
            exact this)
          obtain ⟨Φ, hΦ⟩ : ∃ Φ, 1 + 2 * k = Φ := ⟨_, rfl⟩
          have hΦ2 : Φ + 2 ≤ 800 := by omega
          have HPH := Lib.hid hΦ
          rw [hΦ] at HS CC
          clear hc hx hxx hΦ
          go_wp2_with fail
          refine CC.out.mono ?_
          rintro e w4 ⟨F1, p1, rfl, h4, k4, hf1⟩
          have HP := Lib.hid (HS.out.keep0 k4)
          have HQ := Lib.hid h4
          have HD : Hid (∀ g ∈ F1, g ∉ F) := Lib.hid (fun g hg hgF => by have := hf1 g hg; have := HS.out.lt g hgF; omega)
          have CD := Lib.hid (do_sv HP.out (by omega) x HX.out.1 HX.out.2)
          have hcs := HB.out w4 HQ.out.k
          clear h4 k4 hf1 c0 c1 c2 c3 c4 c5 CC
          obtain ⟨c0, c1, c2, c3, c4, c5⟩ := hcs
          go_wp2_with fail
          refine CD.out.mono ?_
          rintro e w5 ⟨v, s', o, n, en, F', rfl, hr, -, hs, hkF, -, -⟩
          have HN := Lib.hid hs
          have HQ2 := Lib.hid (HQ.out.other HP.out hkF HD.out)
          have HR := Lib.hid hr
          have HI0 := Lib.hid HS.out.v
          have hcs := HB.out w5 HN.out.k
          clear hs hkF hr HS HP HQ HD CD c0 c1 c2 c3 c4 c5
          obtain ⟨c0, c1, c2, c3, c4, c5⟩ := hcs
          go_upto_region 15 with fail
          have HDK0 : dk x = bits .and .i64 x.d 15 := by unfold dk; rw [and_15]
          obtain ⟨q, hq⟩ : ∃ q, bits .and .i64 x.d 15 = q := ⟨_, rfl⟩
          rw [hq] at HDK0 ⊢
          have HDK := Lib.hid HDK0
          clear HDK0 hq
          by_cases hen : en = 0
          · subst hen
            by_cases hq6 : q = 6
            · subst hq6
              obtain ⟨t, hold, hwit⟩ := ord_com HI0.out HR.out HDK.out
              have CO0 := oldest_sv HQ2.out (by omega) x.l HX.out.1.l1 HX.out.1.l2
              rw [hold] at CO0
              have CO : Hid (Calls Try.prog 18 #[.pointer (some ⟨p1, 0, none⟩), .int .i64 x.l] w5 fun e w' => e = .returned (.tuple #[.int .i64 x.i, .int .i64 t, .bool true]) ∧ Keeps [] w5 w') := Lib.hid CO0
              have HWT := Lib.hid hwit
              clear CO0 hold hwit
              go_wp2_with fail
              refine CO.out.mono ?_
              rintro e w6 ⟨rfl, k6⟩
              have H6 := Lib.hid (HN.out.keep0 k6)
              have HQ3 := Lib.hid (HQ2.out.keep0 k6)
              have CW : Hid (Calls Try.prog 19 #[.pointer (some ⟨p1, 0, none⟩), .int .i64 t] w6 fun e w' => e = .returned (.bool false) ∧ Keeps [] w6 w') := Lib.hid ((witL_sv HQ3.out (by omega) t).mono (by
                rintro e w' ⟨b, rfl, hb, hk⟩
                cases b with
                | true => exact absurd (hb.1 rfl) HWT.out
                | false => exact ⟨rfl, hk⟩))
              have hcs := HB.out w6 H6.out.k
              clear k6 CO HN HQ2 c0 c1 c2 c3 c4 c5
              obtain ⟨c0, c1, c2, c3, c4, c5⟩ := hcs
              go_wp2_with fail
              refine CW.out.mono ?_
              rintro e w7 ⟨rfl, k7⟩
              have H7 := Lib.hid (H6.out.keep0 k7)
              clear k7 CW H6 HQ3 c0 c1 c2 c3 c4 c5
              have CB := Lib.hid (bounded_any w _ F' p s' (Φ + 2) H7.out hΦ2)
              go_wp2_with fail
              refine CB.out.mono ?_
              rintro e w9 ⟨rfl, k9⟩
              have H9 := Lib.hid (H7.out.keep0 k9)
              clear k9 CB H7
              go_wp2_with fail
              go_roundw
              case rel => exact ⟨k + 1, by omega, by go_num, F', s', H9.out.mono (by have := HPH.out; omega)⟩
              case measure => simp [intOf]; omega
            · by_cases hq4 : q < 4
              · have hq11 : ¬ (11 : Int) < q := by omega
                obtain ⟨y, a, hli, hyc, hah, hay⟩ := ord_beg HR.out (by have := HDK.out; omega)
                have HYC := Lib.hid hyc
                have HLI := Lib.hid hli
                have CLI := list_sv HN.out hΦ2
                rw [hli] at CLI
                have CL := Lib.hid CLI
                have hsm : s.li.length ≤ 800 := by have := HN.out.li; rw [hli, List.length_append] at this; omega
                clear hyc hli CLI
                go_wp2_with fail
                refine CL.out.mono ?_
                rintro e w6 ⟨A6, c6, rfl, ha6, k6⟩
                have hla : s.li.length < (s.li ++ [(⟨x.l, y, x.t, false⟩ : Rn)]).length := by simp
                obtain ⟨b6, o6, hAA, hb6, hc6⟩ := ha6.at_ (by simp)
                subst hAA
                have hm6 := ha6.mx
                obtain ⟨g0, g1, g2, g3⟩ := hc6 s.li.length hla
                have hlast : (s.li ++ [(⟨x.l, y, x.t, false⟩ : Rn)])[s.li.length] = ⟨x.l, y, x.t, false⟩ := by simp
                rw [hlast] at g0 g1 g2 g3
                dsimp only at g0 g1 g2 g3
                have hlen : (s.li ++ [(⟨x.l, y, x.t, false⟩ : Rn)]).length = s.li.length + 1 := by simp
                rw [hlen] at hm6 ⊢
                obtain ⟨m, hm⟩ : ∃ m, s.li.length = m := ⟨_, rfl⟩
                rw [hm] at g0 g1 g2 g3 hm6 hsm ⊢
                clear hm6
                have mz : (0 : Int) ≤ (m : Int) := by omega
                have ml : (m : Int) < ((m + 1 : Nat) : Int) := by omega
                have e1 : ((m + 1 : Nat) : Int) - 1 = m := by omega
                have e2 := wrap_small hsm
                have e3 := max_nat m
                have hm1 : 0 < m + 1 := Nat.succ_pos m
                have H6 := Lib.hid (HN.out.keep0 k6)
                have HQ3 := Lib.hid (HQ2.out.keep0 k6)
                obtain ⟨c0, c1, c2, c3, c4, c5⟩ := HB.out w6 H6.out.k
                have ka : Keeps [] w6 (w6.alloc (.cells #[.int .i64 x.l, .int .i64 y, .int .i64 x.t, .bool false] 49)) := (Keeps.refl _ _).alloc _
                have CC := Lib.hid (coming_sv (HQ3.out.keep0 ka) (by omega) x.l)
                have b17 := Blk.new w6 49 #[.int .i64 x.l, .int .i64 y, .int .i64 x.t, .bool false]
                have B17 := Lib.hid b17
                have KA := Lib.hid ka
                have ca1 := (HB.out _ (H6.out.keep0 ka).k).2.1
                clear ha6 hc6 hla hlast hlen hm k6 CL HN HQ2 ka b17 hb6
                go_wp2_with fail
                refine CC.out.mono ?_
                rintro e w7 ⟨A7, c7, rfl, ha7, k7⟩
                have HZ7 := Lib.hid ha7
                have H7 := Lib.hid ((H6.out.keep0 KA.out).keep0 k7)
                have HQ4 := Lib.hid ((HQ3.out.keep0 KA.out).keep0 k7)
                have b7 := B17.out.keep k7 (by simp)
                have B7 := Lib.hid b7
                have d0 : w7.cell? ⟨w6.heap.size, 0, none⟩ = some (.int .i64 x.l) := b7.cell 0
                have d1 : w7.cell? ⟨w6.heap.size, 1, none⟩ = some (.int .i64 y) := b7.cell 1
                have d3 : w7.cell? ⟨w6.heap.size, 3, none⟩ = some (.bool false) := b7.cell 3
                replace c1 := (HB.out w7 H7.out.k).2.1
                have HHAS : Hid (∀ m, Calls Try.prog 20 #[.slice A7 (cmgV s x.l).length c7, .int .i64 y] (w7.drewN m) fun e w' => e = .returned (.bool true) ∧ w' = w7.drewN m) := Lib.hid (fun m => by
                  have := has_any (w7.drewN m) A7 (cmgV s x.l) c7 y (HZ7.out.keep ((Keeps.refl _ _).drewN _))
                  rw [decide_eq_true HYC.out] at this
                  exact this)
                obtain ⟨m7, hm7⟩ : ∃ m7, (cmgV s x.l).length = m7 := ⟨_, rfl⟩
                rw [hm7] at HHAS ⊢
                obtain ⟨b17, hb17⟩ : ∃ b17, w6.heap.size = b17 := ⟨_, rfl⟩
                rw [hb17] at d0 d1 d3 B7 ⊢
                clear k7 CC ha7 HZ7 b7 KA B17 H6 HQ3 g0 g1 g2 g3 c0 c2 c3 c4 c5 hm7 hb17
                go_upto_region 23 with fail
                refine ord23_any w7 A7 bl off L.length cb k b6 o6 (m + 1) c6 b17 m7 c7 x.l y _ hm1 d0 d1 d3 c1 i1 HHAS.out _ _ _ _ _ _ _ _ _ _ _ _ _ _ _ _ _ _ _ _ _ _ _ _ _ _ _ _ _ _ _ _ _ _ _ _ _ _ _ _ _ _ _ _ _ _ _ _ _ _ _ _ _ _ _ _ _ _ _ _ _ _ _ _ _ _ _ _ _ _ _ _ _ _ _ _ _ _ _ _ _ _ _ _ _ _ _ _ _ _ _ _ _ _ _ _ _ _ _ _ _ _ _ _ _ _ _ _ _ _ _ _ _ _ _ _ _ _ _ _ _ _ _ _ _ _ _ _ _ _ _ _ _ _ _ _ _ _ _ _ _ _ _ _ _ _ _ _ _ _ _ _ _ _ _ _ _ _ _ _ _ _ _ _ _ ?_
                intro v120 v121 v122 v123 v124 v125 v126 v127 v128 v129 v130 v131 v132 v133 v134 v135 v136 v137 v138 v139 v140 v141 v142 nq
                have kq : Keeps [] w7 (w7.drewN nq) := (Keeps.refl _ _).drewN _
                have H8 := Lib.hid (H7.out.keep0 kq)
                have HQ5 := Lib.hid (HQ4.out.keep0 kq)
                have B8 := Lib.hid (B7.out.keep kq (by simp))
                obtain ⟨w8, hw8⟩ : ∃ w8, w7.drewN nq = w8 := ⟨_, rfl⟩
                rw [hw8] at H8 HQ5 B8 ⊢
                have CA0 := ahead_sv HQ5.out (by omega) x.l HX.out.1.l1 HX.out.1.l2
                rw [hah] at CA0
                have CA : Hid (Calls Try.prog 21 #[.pointer (some ⟨p1, 0, none⟩), .int .i64 x.l] w8 fun e w' => e = .returned (.tuple #[.int .i64 a, .bool true]) ∧ Keeps [] w8 w') := Lib.hid CA0
                replace c1 := (HB.out w8 H8.out.k).2.1
                clear kq hw8 CA0 d0 d1 d3 B7 H7 HQ4 HHAS hah
                go_wp2_with fail
                refine CA.out.mono ?_
                rintro e w10 ⟨rfl, k10⟩
                have d1 : w10.cell? ⟨b17, 1, none⟩ = some (.int .i64 y) := (B8.out.keep k10 (by simp)).cell 1
                have H10 := Lib.hid (H8.out.keep0 k10)
                have haz : ¬ (11 : Int) < q := by omega
                clear k10 CA B8 H8 HQ5 hay
                have CB := Lib.hid (bounded_any w _ F' p s' (Φ + 2) H10.out hΦ2)
                go_wp2_with fail
                refine CB.out.mono ?_
                rintro e w9 ⟨rfl, k9⟩
                have H9 := Lib.hid (H10.out.keep0 k9)
                clear k9 CB H10
                go_wp2_with fail
                go_roundw
                case rel => exact ⟨k + 1, by omega, by go_num, F', s', H9.out.mono (by have := HPH.out; omega)⟩
                case measure => simp [intOf]; omega
              · by_cases hq11 : 11 < q
                · obtain ⟨y, a, hli, hyc, hah, hay⟩ := ord_beg HR.out (by have := HDK.out; omega)
                  have HYC := Lib.hid hyc
                  have HLI := Lib.hid hli
                  have CLI := list_sv HN.out hΦ2
                  rw [hli] at CLI
                  have CL := Lib.hid CLI
                  have hsm : s.li.length ≤ 800 := by have := HN.out.li; rw [hli, List.length_append] at this; omega
                  clear hyc hli CLI
                  go_wp2_with fail
                  refine CL.out.mono ?_
                  rintro e w6 ⟨A6, c6, rfl, ha6, k6⟩
                  have hla : s.li.length < (s.li ++ [(⟨x.l, y, x.t, false⟩ : Rn)]).length := by simp
                  obtain ⟨b6, o6, hAA, hb6, hc6⟩ := ha6.at_ (by simp)
                  subst hAA
                  have hm6 := ha6.mx
                  obtain ⟨g0, g1, g2, g3⟩ := hc6 s.li.length hla
                  have hlast : (s.li ++ [(⟨x.l, y, x.t, false⟩ : Rn)])[s.li.length] = ⟨x.l, y, x.t, false⟩ := by simp
                  rw [hlast] at g0 g1 g2 g3
                  dsimp only at g0 g1 g2 g3
                  have hlen : (s.li ++ [(⟨x.l, y, x.t, false⟩ : Rn)]).length = s.li.length + 1 := by simp
                  rw [hlen] at hm6 ⊢
                  obtain ⟨m, hm⟩ : ∃ m, s.li.length = m := ⟨_, rfl⟩
                  rw [hm] at g0 g1 g2 g3 hm6 hsm ⊢
                  clear hm6
                  have mz : (0 : Int) ≤ (m : Int) := by omega
                  have ml : (m : Int) < ((m + 1 : Nat) : Int) := by omega
                  have e1 : ((m + 1 : Nat) : Int) - 1 = m := by omega
                  have e2 := wrap_small hsm
                  have e3 := max_nat m
                  have hm1 : 0 < m + 1 := Nat.succ_pos m
                  have H6 := Lib.hid (HN.out.keep0 k6)
                  have HQ3 := Lib.hid (HQ2.out.keep0 k6)
                  obtain ⟨c0, c1, c2, c3, c4, c5⟩ := HB.out w6 H6.out.k
                  have ka : Keeps [] w6 (w6.alloc (.cells #[.int .i64 x.l, .int .i64 y, .int .i64 x.t, .bool false] 49)) := (Keeps.refl _ _).alloc _
                  have CC := Lib.hid (coming_sv (HQ3.out.keep0 ka) (by omega) x.l)
                  have b17 := Blk.new w6 49 #[.int .i64 x.l, .int .i64 y, .int .i64 x.t, .bool false]
                  have B17 := Lib.hid b17
                  have KA := Lib.hid ka
                  have ca1 := (HB.out _ (H6.out.keep0 ka).k).2.1
                  clear ha6 hc6 hla hlast hlen hm k6 CL HN HQ2 ka b17 hb6
                  go_wp2_with fail
                  refine CC.out.mono ?_
                  rintro e w7 ⟨A7, c7, rfl, ha7, k7⟩
                  have HZ7 := Lib.hid ha7
                  have H7 := Lib.hid ((H6.out.keep0 KA.out).keep0 k7)
                  have HQ4 := Lib.hid ((HQ3.out.keep0 KA.out).keep0 k7)
                  have b7 := B17.out.keep k7 (by simp)
                  have B7 := Lib.hid b7
                  have d0 : w7.cell? ⟨w6.heap.size, 0, none⟩ = some (.int .i64 x.l) := b7.cell 0
                  have d1 : w7.cell? ⟨w6.heap.size, 1, none⟩ = some (.int .i64 y) := b7.cell 1
                  have d3 : w7.cell? ⟨w6.heap.size, 3, none⟩ = some (.bool false) := b7.cell 3
                  replace c1 := (HB.out w7 H7.out.k).2.1
                  have HHAS : Hid (∀ m, Calls Try.prog 20 #[.slice A7 (cmgV s x.l).length c7, .int .i64 y] (w7.drewN m) fun e w' => e = .returned (.bool true) ∧ w' = w7.drewN m) := Lib.hid (fun m => by
                    have := has_any (w7.drewN m) A7 (cmgV s x.l) c7 y (HZ7.out.keep ((Keeps.refl _ _).drewN _))
                    rw [decide_eq_true HYC.out] at this
                    exact this)
                  obtain ⟨m7, hm7⟩ : ∃ m7, (cmgV s x.l).length = m7 := ⟨_, rfl⟩
                  rw [hm7] at HHAS ⊢
                  obtain ⟨b17, hb17⟩ : ∃ b17, w6.heap.size = b17 := ⟨_, rfl⟩
                  rw [hb17] at d0 d1 d3 B7 ⊢
                  clear k7 CC ha7 HZ7 b7 KA B17 H6 HQ3 g0 g1 g2 g3 c0 c2 c3 c4 c5 hm7 hb17
                  go_upto_region 23 with fail
                  refine ord23_any w7 A7 bl off L.length cb k b6 o6 (m + 1) c6 b17 m7 c7 x.l y _ hm1 d0 d1 d3 c1 i1 HHAS.out _ _ _ _ _ _ _ _ _ _ _ _ _ _ _ _ _ _ _ _ _ _ _ _ _ _ _ _ _ _ _ _ _ _ _ _ _ _ _ _ _ _ _ _ _ _ _ _ _ _ _ _ _ _ _ _ _ _ _ _ _ _ _ _ _ _ _ _ _ _ _ _ _ _ _ _ _ _ _ _ _ _ _ _ _ _ _ _ _ _ _ _ _ _ _ _ _ _ _ _ _ _ _ _ _ _ _ _ _ _ _ _ _ _ _ _ _ _ _ _ _ _ _ _ _ _ _ _ _ _ _ _ _ _ _ _ _ _ _ _ _ _ _ _ _ _ _ _ _ _ _ _ _ _ _ _ _ _ _ _ _ _ _ _ _ ?_
                  intro v120 v121 v122 v123 v124 v125 v126 v127 v128 v129 v130 v131 v132 v133 v134 v135 v136 v137 v138 v139 v140 v141 v142 nq
                  have kq : Keeps [] w7 (w7.drewN nq) := (Keeps.refl _ _).drewN _
                  have H8 := Lib.hid (H7.out.keep0 kq)
                  have HQ5 := Lib.hid (HQ4.out.keep0 kq)
                  have B8 := Lib.hid (B7.out.keep kq (by simp))
                  obtain ⟨w8, hw8⟩ : ∃ w8, w7.drewN nq = w8 := ⟨_, rfl⟩
                  rw [hw8] at H8 HQ5 B8 ⊢
                  have CA0 := ahead_sv HQ5.out (by omega) x.l HX.out.1.l1 HX.out.1.l2
                  rw [hah] at CA0
                  have CA : Hid (Calls Try.prog 21 #[.pointer (some ⟨p1, 0, none⟩), .int .i64 x.l] w8 fun e w' => e = .returned (.tuple #[.int .i64 a, .bool true]) ∧ Keeps [] w8 w') := Lib.hid CA0
                  replace c1 := (HB.out w8 H8.out.k).2.1
                  clear kq hw8 CA0 d0 d1 d3 B7 H7 HQ4 HHAS hah
                  go_wp2_with fail
                  refine CA.out.mono ?_
                  rintro e w10 ⟨rfl, k10⟩
                  have d1 : w10.cell? ⟨b17, 1, none⟩ = some (.int .i64 y) := (B8.out.keep k10 (by simp)).cell 1
                  have H10 := Lib.hid (H8.out.keep0 k10)
                  obtain rfl := hay (by have := HDK.out; omega)
                  clear k10 CA B8 H8 HQ5 hay
                  have CB := Lib.hid (bounded_any w _ F' p s' (Φ + 2) H10.out hΦ2)
                  go_wp2_with fail
                  refine CB.out.mono ?_
                  rintro e w9 ⟨rfl, k9⟩
                  have H9 := Lib.hid (H10.out.keep0 k9)
                  clear k9 CB H10
                  go_wp2_with fail
                  go_roundw
                  case rel => exact ⟨k + 1, by omega, by go_num, F', s', H9.out.mono (by have := HPH.out; omega)⟩
                  case measure => simp [intOf]; omega
                · clear c0 c1 c2 c3 c4 c5
                  have CB := Lib.hid (bounded_any w _ F' p s' (Φ + 2) HN.out hΦ2)
                  go_wp2_with fail
                  refine CB.out.mono ?_
                  rintro e w9 ⟨rfl, k9⟩
                  have H9 := Lib.hid (HN.out.keep0 k9)
                  clear k9 CB HN
                  go_wp2_with fail
                  go_roundw
                  case rel => exact ⟨k + 1, by omega, by go_num, F', s', H9.out.mono (by have := HPH.out; omega)⟩
                  case measure => simp [intOf]; omega
          · by_cases hq6 : q = 6
            · subst hq6
              clear c0 c1 c2 c3 c4 c5
              have CB := Lib.hid (bounded_any w _ F' p s' (Φ + 2) HN.out hΦ2)
              go_wp2_with fail
              refine CB.out.mono ?_
              rintro e w9 ⟨rfl, k9⟩
              have H9 := Lib.hid (HN.out.keep0 k9)
              clear k9 CB HN
              go_wp2_with fail
              go_roundw
              case rel => exact ⟨k + 1, by omega, by go_num, F', s', H9.out.mono (by have := HPH.out; omega)⟩
              case measure => simp [intOf]; omega
            · by_cases hq4 : q < 4
              · clear c0 c1 c2 c3 c4 c5
                have CB := Lib.hid (bounded_any w _ F' p s' (Φ + 2) HN.out hΦ2)
                go_wp2_with fail
                refine CB.out.mono ?_
                rintro e w9 ⟨rfl, k9⟩
                have H9 := Lib.hid (HN.out.keep0 k9)
                clear k9 CB HN
                go_wp2_with fail
                go_roundw
                case rel => exact ⟨k + 1, by omega, by go_num, F', s', H9.out.mono (by have := HPH.out; omega)⟩
                case measure => simp [intOf]; omega
              · by_cases hq11 : 11 < q
                · clear c0 c1 c2 c3 c4 c5
                  have CB := Lib.hid (bounded_any w _ F' p s' (Φ + 2) HN.out hΦ2)
                  go_wp2_with fail
                  refine CB.out.mono ?_
                  rintro e w9 ⟨rfl, k9⟩
                  have H9 := Lib.hid (HN.out.keep0 k9)
                  clear k9 CB HN
                  go_wp2_with fail
                  go_roundw
                  case rel => exact ⟨k + 1, by omega, by go_num, F', s', H9.out.mono (by have := HPH.out; omega)⟩
                  case measure => simp [intOf]; omega
                · clear c0 c1 c2 c3 c4 c5
                  have CB := Lib.hid (bounded_any w _ F' p s' (Φ + 2) HN.out hΦ2)
                  go_wp2_with fail
                  refine CB.out.mono ?_
                  rintro e w9 ⟨rfl, k9⟩
                  have H9 := Lib.hid (HN.out.keep0 k9)
                  clear k9 CB HN
                  go_wp2_with fail
                  go_roundw
                  case rel => exact ⟨k + 1, by omega, by go_num, F', s', H9.out.mono (by have := HPH.out; omega)⟩
                  case measure => simp [intOf]; omega
        · obtain rfl : k = L.length := by omega
          go_wp2_with fail
          go_ret
          exact ⟨rfl, HS.out.k⟩
end Go.Proofs.Ytcopjjokhjealaa
