/- The walk of TlbBounds. -/
import Derived.Test.YtkfcoemdpcjhfaaB4
import Derived.Test.YtkfcoemdpcjhfaaW11
import Derived.Test.YtkfcoemdpcjhfaaT2
namespace Go.Proofs.Ytkfcoemdpcjhfaa
open Go.RowKit

/-- The state ahead of round i. -/
structure BI (w wr : World) (F : List Nat) (p : Nat) (N : Nat) (s : Tl) : Prop where
  o : Own1 w wr F p s
  t : Nd s.L
  n : s.n = N
theorem BI.keep {w wr w' : World} {F : List Nat} {p N : Nat} {s : Tl} (h : BI w wr F p N s) (k : Keeps [] wr w') : BI w w' F p N s :=
  ⟨⟨h.o.r.keep k (by simp), h.o.k.trans k (by simp), h.o.f⟩, h.t, h.n⟩

set_option maxRecDepth 100000 in
set_option maxHeartbeats 6400000 in
theorem bounds_any (w : World) (nn : Int) (A : Option Addr) (m c : Nat) (d : Nat → Int) (en : Nat → En) (hm : m ≤ 9223372036854775807) (hz1 : -9223372036854775808 ≤ nn) (hz2 : nn ≤ 9223372036854775807)
    (hA : 0 < m → ∃ bl off, A = some ⟨bl, off, none⟩ ∧ ActsAt w bl off m d en) :
    Calls Try.prog 5 #[.int .i64 nn, .slice A m c] w fun e w' => e = .returned (.bool true) ∧ Keeps [] w w' := by
  by_cases g1 : 40 < nn ∨ 120 < m
  · by_cases a1 : 40 < nn
    · go_enter Try.func5, Try.ntmps5
      go_wp2_with fail
      refine (small_any _).mono ?_
      rintro e w1 ⟨rfl, k1⟩
      go_wp2_with fail
      refine (new_any _ nn hz1 hz2).mono ?_
      rintro e w2 ⟨F, p, rfl, r2, k2, f2⟩
      go_wp2
      go_ret
      exact ⟨rfl, k1.trans k2 (by simp)⟩
    have a3 : 120 < m := by omega
    clear g1
    go_enter Try.func5, Try.ntmps5
    go_wp2_with fail
    refine (small_any _).mono ?_
    rintro e w1 ⟨rfl, k1⟩
    go_wp2_with fail
    refine (new_any _ nn hz1 hz2).mono ?_
    rintro e w2 ⟨F, p, rfl, r2, k2, f2⟩
    go_wp2
    go_ret
    exact ⟨rfl, k1.trans k2 (by simp)⟩
  have b2 : nn ≤ 40 := by omega
  have b3 : m ≤ 120 := by omega
  clear g1 hm
  go_enter Try.func5, Try.ntmps5
  go_wp2_with fail
  refine (small_any _).mono ?_
  rintro e w1 ⟨rfl, k1⟩
  go_wp2_with fail
  refine (new_any _ nn hz1 hz2).mono ?_
  rintro e w2 ⟨F, p, rfl, r2, k2, f2⟩
  have I0 : BI w w2 F p nn.toNat ⟨nn.toNat, []⟩ := ⟨⟨r2, k1.trans k2 (by simp), fun g hg => Nat.le_trans k1.size (f2 g hg)⟩, List.Pairwise.nil, rfl⟩
  have hN : nn.toNat ≤ 40 := by omega
  have hmx : max nn 0 = (nn.toNat : Int) := by omega
  have hmx2 : max 0 nn = (nn.toNat : Int) := by omega
  clear k1 k2 f2 r2
  generalize nn.toNat = N at *
  go_wp2_with fail
  go_loopw [7] (fun i wr => ∃ (k : Nat) (s : Tl) (F : List Nat), k ≤ m ∧ i = .int .i64 k ∧ BI w wr F p N s) (fun i _ => m - (intOf i).toNat)
  case atStart => exact ⟨0, _, F, by omega, rfl, I0⟩
  case round =>
    clear I0
    obtain ⟨i, s, F, hi, rfl, I⟩ := hrel
    by_cases hlt : i < m
    rotate_left
    · obtain rfl : i = m := by omega
      go_wp2
      go_ret
      exact ⟨rfl, I.o.k⟩
    obtain ⟨bl, off, rfl, O⟩ := hA (by omega)
    clear hA
    have hs40 : s.n ≤ 1000 := by have := I.n; omega
    go_wp2_with fail
    refine (list_any _ F p s hs40 I.o.r).mono ?_
    rintro e w3 ⟨vb, rfl, ob, k3, fb⟩
    have I3 := I.keep k3
    have hfb : ∀ g ∈ F, g ∉ fp vb := fun g hg hx => by have := I.o.r.lt g hg; have := fb g hx; omega
    obtain ⟨Ab, cb, rfl, -, -, hAb⟩ := own_shape ob
    have hx := do_any w3 F p s (d i) (en i) hs40 I3.o.r
    have HX := Lib.hid hx
    have hb : s.L.length ≤ 40 := by have := I.o.r.len; have := I.n; omega
    clear hx I k3
    have O1 := O.keep I3.o.k
    have q0 := O1.c0 i hlt
    have q1 := O1.c1 i hlt
    have q2 := O1.c2 i hlt
    have q3 := O1.c3 i hlt
    have q4 := O1.c4 i hlt
    clear O1
    go_wp2_with fail
    refine HX.out.mono ?_
    rintro e w4 ⟨rfl, n4⟩
    obtain ⟨F4, r4, k4, f4⟩ := n4
    have hd : ∀ g ∈ fp (.slice Ab s.L.length cb), g ∉ F := fun g hg hF => hfb g hF hg
    have ob4 := own_keep ob k4 hd
    obtain ⟨F4', o4⟩ := I3.o.next ⟨F4, r4, k4, f4⟩
    have I4 : BI w w4 F4' p N (s.op (d i) (en i)) := ⟨o4, I3.t.op _ _, by rw [op_n]; exact I3.n⟩
    have hMem := fun e (he : e ∈ s.L) (h3 : d i % 8 ≠ 3) (h4 : d i % 8 ≠ 4) => op_mem (t := s) (d := d i) (x := en i) h3 h4 he
    have hLen := fun (h3 : d i % 8 ≠ 3) (h4 : d i % 8 ≠ 4) => op_len (t := s) (d := d i) (x := en i) h3 h4
    have hRes : 4 < d i % 8 → (s.opR (d i) (en i)).1 = (s.L.length : Int) - (s.op (d i) (en i)).L.length := fun h => by
      have h1 := Int.emod_lt_of_pos (d i) (by omega : (0 : Int) < 8)
      have : d i % 8 = 5 ∨ d i % 8 = 6 ∨ d i % 8 = 7 := by omega
      unfold Tl.opR Tl.op
      rcases this with h | h | h <;> rw [h] <;> rfl
    generalize s.op (d i) (en i) = t at *
    generalize s.opR (d i) (en i) = R at *
    obtain ⟨R1, R2⟩ := R
    have hRes : 4 < d i % 8 → R1 = (s.L.length : Int) - t.L.length := hRes
    have htn : t.L.length ≤ N := by have := I4.o.r.len; have := I4.n; omega
    have HMem := Lib.hid hMem
    have HLen := Lib.hid hLen
    have HRes := Lib.hid hRes
    clear hMem hLen hRes k4 r4 f4 o4 ob I3 HX hd hfb fb q0 q1 q2 q3 q4
    go_wp2_with fail
    refine (list_any _ F4' p t (by have := I4.n; omega) I4.o.r).mono ?_
    rintro e w5 ⟨va, rfl, oa, k5, fa⟩
    have I5 := I4.keep k5
    have ob5 := own_keep ob4 k5 (by simp)
    obtain ⟨Aa, ca, rfl, -, -, hAa⟩ := own_shape oa
    have K5 := I5.o.k
    have HI5 := Lib.hid I5
    clear I4 I5 k5 fa ob4
    have O1 := O.keep K5
    have q0 := O1.c0 i hlt
    clear O1
    have h7 := and_7 (d i)
    have t1 : decide ((N : Int) < t.L.length) = false := by simp; omega
    have hq0 := Int.emod_nonneg (d i) (by omega : (8 : Int) ≠ 0)
    have hq1 := Int.emod_lt_of_pos (d i) (by omega : (0 : Int) < 8)
    have htl : t.L.length ≤ 1000 := by omega
    have hs1 : s.L.length ≤ 1000 := by omega
    have hgo : ∀ x : En, hitQ (d i) (en i) x = ((d i % 8 == 5 && x.is (en i).s (en i).p) || (d i % 8 == 6 && x.f == (en i).f) || (d i % 8 == 7 && x.s == (en i).s)) := fun _ => rfl
    have HGO := Lib.hid hgo
    clear hgo
    generalize hq : d i % 8 = q at *
    clear hq
    go_wp2_with fail
    go_loopw [13, 14] (fun g a wr => ∃ k : Nat, k ≤ s.L.length ∧ a = .int .i64 k ∧ g = .int .i64 (goneN (d i) (en i) (s.L.take k) : Nat) ∧ Keeps [] w5 wr) (fun _ a _ => s.L.length - (intOf a).toNat)
    case atStart => exact ⟨0, by omega, rfl, rfl, Keeps.refl _ _⟩
    case round =>
      clear q0
      obtain ⟨k, hk, rfl, rfl, kp⟩ := hrel
      by_cases hkl : k < s.L.length
      rotate_left
      · obtain rfl : k = s.L.length := by omega
        rw [List.take_length] at *
        clear HMem HGO ob5 hAb
        have hG : goneN (d i) (en i) s.L ≤ s.L.length := List.countP_le_length
        generalize goneN (d i) (en i) s.L = G at *
        go_upto_region 24 with fail
        refine reg24_any wr Ab Aa s.L.length cb t.L.length ca G R1 q _ hs1 hG (fun h => by have h1 := HRes.out h; have := HLen.out (by omega) (by omega); omega) (fun h3 h4 => HLen.out h3 h4) _ _ _ _ _ _ _ _ _ _ _ _ _ _ _ _ _ _ _ _ _ _ _ _ _ _ _ _ _ _ _ _ _ _ _ _ _ _ _ _ _ _ _ _ _ _ _ _ _ _ _ _ _ _ _ _ _ _ _ _ _ _ _ _ _ _ _ _ _ _ _ _ _ _ _ _ _ _ _ _ _ _ _ _ _ _ _ _ _ _ _ _ _ _ _ _ _ _ _ _ _ _ _ _ _ _ _ _ _ _ _ _ _ _ _ _ _ _ _ _ _ _ _ _ _ _ _ _ _ _ _ _ _ _ _ _ _ _ _ _ _ _ _ _ _ _ _ _ _ _ _ _ _ _ _ _ _ _ _ _ _ _ _ _ _ _ _ _ _ _ _ _ _ _ _ _ _ _ _ _ _ _ _ _ _ _ _ _ _ _ _ _ _ _ _ _ _ _ _ ?_
        intro v144 v145 v146 v147 v148 v149 v150 v151 v152 v153 v154 v155 v156 v157 v158 v159 v160 v161 v162 v163 v164 v165 v166
        clear HRes HLen
        go_wp2_with fail
        obtain ⟨wo, rfl⟩ : ∃ wo : World, wo = wr := ⟨_, rfl⟩
        go_loopw [17] (fun a wr => ∃ k : Nat, k ≤ t.L.length ∧ a = .int .i64 k ∧ Keeps [] w5 wr) (fun a _ => t.L.length - (intOf a).toNat)
        case atStart => exact ⟨0, by omega, rfl, kp⟩
        case round =>
          clear kp
          obtain ⟨a, ha, rfl, kp⟩ := hrel
          by_cases hat : a < t.L.length
          rotate_left
          · obtain rfl : a = t.L.length := by omega
            have I6 := HI5.out.keep kp
            go_wp2_with fail
            go_roundw
            case rel => exact ⟨i + 1, t, F4', by omega, by go_num, I6⟩
            case measure => simp [intOf]; omega
          obtain ⟨ga, rfl⟩ := hAa (by omega)
          go_wp2_with fail
          obtain ⟨wo2, rfl⟩ : ∃ wo2 : World, wo2 = wr := ⟨_, rfl⟩
          go_loopw [18] (fun b wr => ∃ k : Nat, k ≤ a ∧ b = .int .i64 k ∧ Keeps [] w5 wr) (fun b _ => a - (intOf b).toNat)
          case atStart => exact ⟨0, by omega, rfl, kp⟩
          case round =>
            clear kp
            obtain ⟨b, hb, rfl, kp⟩ := hrel
            by_cases hba : b < a
            rotate_left
            · obtain rfl : b = a := by omega
              go_wp2_with fail
              go_roundw
              case rel => exact ⟨b + 1, by omega, by go_num, kp⟩
              case measure => simp [intOf]; omega
            have oa6 := own_keep oa kp (by simp)
            have hND := HI5.out.t
            go_wp2_with fail
            refine reg32_any _ t ga ca a b _ hat hba oa6 hND _ _ _ _ _ _ _ _ _ _ _ _ _ _ _ _ _ _ _ _ _ _ _ _ _ _ _ _ _ _ _ _ _ _ _ _ _ _ _ _ _ _ _ _ _ _ _ _ _ _ _ _ _ _ _ _ _ _ _ _ _ _ _ _ _ _ _ _ _ _ _ _ _ _ _ _ _ _ _ _ _ _ _ _ _ _ _ _ _ _ _ _ _ _ _ _ _ _ _ _ _ _ _ _ _ _ _ _ _ _ _ _ _ _ _ _ _ _ _ _ _ _ _ _ _ _ _ _ _ _ _ _ _ _ _ _ _ _ _ _ _ _ _ _ _ _ _ _ _ _ _ _ _ _ _ _ _ _ _ _ _ _ _ _ _ _ _ _ _ _ _ _ _ _ _ _ _ _ _ _ _ _ _ _ _ _ _ _ _ _ _ _ _ _ _ _ _ _ _ _ _ ?_
            intro v179 v180 v181 v182 v183 v184 v185 v186 v187 v188 v189 v190 v191 v192 v193 v194 v195 v196 v197 v198 v199 v200 v201 nq
            clear oa6 hND
            go_wp2_with fail
            go_roundw
            case rel => exact ⟨b + 1, by omega, by go_num, kp.drewN _⟩
            case measure => simp [intOf]; omega
      obtain ⟨gb, rfl⟩ := hAb (by omega)
      have o1 := own_keep ob5 kp (by simp)
      have a0 := own_cell o1 (j := k * 4) (u := .int .i64 s.L[k].s) (by rw [show k * 4 = k * 4 + 0 by omega, es_at hkl (by omega)]; rfl)
      have a1 := own_cell o1 (j := k * 4 + 1) (u := .int .i64 s.L[k].p) (by rw [es_at hkl (by omega)]; rfl)
      have a2 := own_cell o1 (j := k * 4 + 2) (u := .int .i64 s.L[k].f) (by rw [es_at hkl (by omega)]; rfl)
      have a3 := own_cell o1 (j := k * 4 + 3) (u := .bool s.L[k].w) (by rw [es_at hkl (by omega)]; rfl)
      have hGk : goneN (d i) (en i) (s.L.take (k + 1)) = goneN (d i) (en i) (s.L.take k) + (if hitQ (d i) (en i) s.L[k] then 1 else 0) := by
        rw [List.take_succ_eq_append_getElem hkl]; unfold goneN; rw [List.countP_append]; simp [List.countP_cons]
      have hG : goneN (d i) (en i) (s.L.take k) ≤ k := Nat.le_trans List.countP_le_length (List.length_take_le _ _)
      have HGK := Lib.hid hGk
      have hm := fun h3 h4 => HMem.out _ (List.getElem_mem hkl) h3 h4
      have HM := Lib.hid hm
      have HH := Lib.hid (HGO.out s.L[k])
      clear hGk hm HMem HGO HLen HRes
      generalize hitQ (d i) (en i) s.L[k] = hit at *
      generalize goneN (d i) (en i) (s.L.take k) = G at *
      generalize hek : s.L[k] = ek at *
      clear hek
      go_upto_region 19 with fail
      have pB : Blk (wr.alloc (.cells #[.int .i64 ek.s, .int .i64 ek.p, .int .i64 ek.f, .bool ek.w] 34)) wr.heap.size 34 #[.int .i64 ek.s, .int .i64 ek.p, .int .i64 ek.f, .bool ek.w] := Blk.new _ _ _
      have kB : Keeps [] w5 (wr.alloc (.cells #[.int .i64 ek.s, .int .i64 ek.p, .int .i64 ek.f, .bool ek.w] 34)) := kp.alloc _
      clear a0 a1 a2 a3 o1
      generalize wr.alloc (.cells #[.int .i64 ek.s, .int .i64 ek.p, .int .i64 ek.f, .bool ek.w] 34) = wB at *
      generalize wr.heap.size = xb at *
      have O5 := O.keep (K5.trans kB (by simp))
      go_wp2_with fail
      refine reg19_any wB q bl off m c i xb d en ek hit _ hlt O5 pB HH.out.symm _ _ _ _ _ _ _ _ _ _ _ _ _ _ _ _ _ _ _ _ _ _ _ _ _ _ _ _ _ _ _ _ _ _ _ _ _ _ _ _ _ _ _ _ _ _ _ _ _ _ _ _ _ _ _ _ _ _ _ _ _ _ _ _ _ _ _ _ _ _ _ _ _ _ _ _ _ _ _ _ _ _ _ _ _ _ _ _ _ _ _ _ _ _ _ _ _ _ _ _ _ _ _ _ _ _ _ _ _ _ _ _ _ _ _ _ _ _ _ _ _ _ _ _ _ _ _ _ _ _ _ _ _ _ _ _ _ _ _ _ _ _ _ _ _ _ _ _ _ _ _ _ _ _ _ _ _ _ _ _ _ _ _ _ _ _ _ _ _ _ _ _ _ _ _ _ _ _ _ _ _ _ _ _ _ _ _ _ _ _ _ _ _ _ _ _ _ _ _ _ ?_
      intro v78 v79 v80 v81 v82 v83 v84 v85 v86 v87 v88 v89 v90 v91 v92 v93 v94 v95 v96 v97 v98 v99 v100 v101 v102 v103 v104 v105 v106 v107 v108 v109 v110 v111 v112 v113 v114 v115 v116 v117 v118 v119 v120 v121 v122 v123 v124 v125 v126 v127 nq
      have kC := kB.drewN nq
      have pC := pB.drewN nq
      have oaC := own_keep oa kC (by simp)
      clear kB pB O5 HH
      generalize wB.drewN nq = wC at *
      cases hit with
      | true =>
        go_upto_region 22 with fail
        refine reg22_any wC Aa ca xb t.L ek true q _ (by omega) oaC pC HM.out _ _ _ _ _ _ _ _ _ _ _ _ _ _ _ _ _ _ _ _ _ _ _ _ _ _ _ _ _ _ _ _ _ _ _ _ _ _ _ _ _ _ _ _ _ _ _ _ _ _ _ _ _ _ _ _ _ _ _ _ _ _ _ _ _ _ _ _ _ _ _ _ _ _ _ _ _ _ _ _ _ _ _ _ _ _ _ _ _ _ _ _ _ _ _ _ _ _ _ _ _ _ _ _ _ _ _ _ _ _ _ _ _ _ _ _ _ _ _ _ _ _ _ _ _ _ _ _ _ _ _ _ _ _ _ _ _ _ _ _ _ _ _ _ _ _ _ _ _ _ _ _ _ _ _ _ _ _ _ _ _ _ _ _ _ _ _ _ _ _ _ _ _ _ _ _ _ _ _ _ _ _ _ _ _ _ _ _ _ _ _ _ _ _ _ _ _ _ _ _ ?_
        intro v131 v132 v133 v134 v135 v136 v137 v138 v139 v140 v141 v142 wD kD
        have kE := kC.trans kD (by simp)
        clear kC kD oaC pC HM
        go_wp2_with fail
        go_roundw
        case rel => exact ⟨k + 1, by omega, by go_num, by rw [HGK.out]; go_num, kE⟩
        case measure => simp [intOf]; omega
      | false =>
        go_upto_region 22 with fail
        refine reg22_any wC Aa ca xb t.L ek false q _ (by omega) oaC pC HM.out _ _ _ _ _ _ _ _ _ _ _ _ _ _ _ _ _ _ _ _ _ _ _ _ _ _ _ _ _ _ _ _ _ _ _ _ _ _ _ _ _ _ _ _ _ _ _ _ _ _ _ _ _ _ _ _ _ _ _ _ _ _ _ _ _ _ _ _ _ _ _ _ _ _ _ _ _ _ _ _ _ _ _ _ _ _ _ _ _ _ _ _ _ _ _ _ _ _ _ _ _ _ _ _ _ _ _ _ _ _ _ _ _ _ _ _ _ _ _ _ _ _ _ _ _ _ _ _ _ _ _ _ _ _ _ _ _ _ _ _ _ _ _ _ _ _ _ _ _ _ _ _ _ _ _ _ _ _ _ _ _ _ _ _ _ _ _ _ _ _ _ _ _ _ _ _ _ _ _ _ _ _ _ _ _ _ _ _ _ _ _ _ _ _ _ _ _ _ _ _ ?_
        intro v131 v132 v133 v134 v135 v136 v137 v138 v139 v140 v141 v142 wD kD
        have kE := kC.trans kD (by simp)
        clear kC kD oaC pC HM
        go_wp2_with fail
        go_roundw
        case rel => exact ⟨k + 1, by omega, by go_num, by rw [HGK.out]; rfl, kE⟩
        case measure => simp [intOf]; omega
end Go.Proofs.Ytkfcoemdpcjhfaa
