/- The reference's Unmap. -/
import Derived.Test.YtiffjaociblboaaW6
namespace Go.Proofs.Ytiffjaociblboaa
open Go.RowKit

set_option maxRecDepth 100000 in
set_option maxHeartbeats 6400000 in
theorem runm_ok (w : World) (A : Option Addr) (L : List Ar) (c : Nat) (p n : Int) (ha : AtL w A L) (hv : Vds L) (h : unmR p n = true) :
    Calls Try.prog 17 #[.slice A L.length c, .int .i64 p, .int .i64 n] w (UnmP w A L c p n) := by
  obtain ⟨g1, g2, g3, g4⟩ : 0 ≤ p ∧ 1 ≤ n ∧ n ≤ 256 ∧ p ≤ 256 - n := by unfold unmR at h; simpa using h
  have hm := ha.mx
  have HH := Lib.hid ha
  have HV := Lib.hid hv
  have HI := Lib.hid info24
  have HE : Hid (unmE L p n = if 16 < (unmA L p n).length then 6 else 0) := Lib.hid (by unfold unmE; rw [h]; rfl)
  clear h ha hv
  go_enter Try.func17, Try.ntmps17
  go_wp2_with fail
  go_loopw [8, 9] (fun v i wr => ∃ k : Nat, k ≤ L.length ∧ i = .int .i64 k ∧ OwnL w wr v (unmA (L.take k) p n)) (fun _ i _ => L.length - (intOf i).toNat)
  case atStart => exact ⟨0, by omega, rfl, OwnL.nil (Keeps.refl _ _)⟩
  case round =>
    obtain ⟨k, hk, rfl, O⟩ := hrel
    have HO := Lib.hid O
    have hpl := unm_len (L.take k) p n
    have htl : (L.take k).length ≤ L.length := by rw [List.length_take]; omega
    obtain ⟨Av, cv, rfl⟩ := O.shape
    by_cases hlt : k < L.length
    · have HC := Lib.hid (HH.out.keep O.2.1)
      obtain ⟨bl, off, rfl, hbl, hc⟩ := HC.out.at_ (by omega)
      obtain ⟨c0, c1, c2, c3, c4, c5⟩ := hc k hlt
      have hvk := HV.out _ (List.getElem_mem hlt)
      have hn := unm_take L p n hlt
      obtain ⟨x, hx⟩ : ∃ x, L[k] = x := ⟨_, rfl⟩
      obtain ⟨P, hP⟩ : ∃ P, unmA (L.take k) p n = P := ⟨_, rfl⟩
      rw [hP] at HO hpl hn
      rw [hP]
      rw [hx] at c0 c1 c2 c3 c4 c5 hvk hn
      have q1 := hvk.a0
      have q2 := hvk.n1
      have q3 := hvk.n2
      have q4 := hvk.an
      have q5 := hvk.f0
      have q6 := hvk.fn
      obtain ⟨xa, xn, xo, xf, xs, xw⟩ := x
      dsimp only at c0 c1 c2 c3 c4 c5 q1 q2 q3 q4 q5 q6
      clear hx hP hvk hc O hbl
      by_cases m1 : xn ≤ p - xa
      · have m2 : xa < p + n := by omega
        have m3 : 0 < xn := by omega
        have m4 : xa + xn - (p + n) ≤ 0 := by omega
        have HN : Hid (unmA (L.take (k + 1)) p n = P ++ [⟨xa, xn, xo, xf, xs, xw⟩]) := Lib.hid (by
          rw [hn]
          unfold cutA lowA higA
          dsimp only
          rw [show min (p - xa) xn = xn by omega, show max (p + n) xa = p + n by omega]
          rw [if_pos (by omega), if_neg (by omega)]
          simp)
        clear hn
        have B12 := Blk.new ((wr.alloc (.cells #[.int .i64 xa, .int .i64 xn, .string xo, .int .i64 xf, .bool xs, .bool xw] 24)).alloc (.cells #[.int .i64 xa, .int .i64 (xn), .string xo, .int .i64 xf, .bool xs, .bool xw] 24)) 24 #[.int .i64 (p + n), .int .i64 (xa + xn - (p + n)), .string xo, .int .i64 (xf + (p + n) - xa), .bool xs, .bool xw]
        rw [show ((wr.alloc (.cells #[.int .i64 xa, .int .i64 xn, .string xo, .int .i64 xf, .bool xs, .bool xw] 24)).alloc (.cells #[.int .i64 xa, .int .i64 (xn), .string xo, .int .i64 xf, .bool xs, .bool xw] 24)).heap.size = wr.heap.size + 1 + 1 by simp] at B12
        have HB12 := Lib.hid B12
        have K3 : Keeps [] wr (((wr.alloc (.cells #[.int .i64 xa, .int .i64 xn, .string xo, .int .i64 xf, .bool xs, .bool xw] 24)).alloc (.cells #[.int .i64 xa, .int .i64 (xn), .string xo, .int .i64 xf, .bool xs, .bool xw] 24)).alloc (.cells #[.int .i64 (p + n), .int .i64 (xa + xn - (p + n)), .string xo, .int .i64 (xf + (p + n) - xa), .bool xs, .bool xw] 24)) := (((Keeps.refl _ _).alloc _).alloc _).alloc _
        have HK3 := Lib.hid K3
        clear B12 K3
        have hr6 := reads_cells (((wr.alloc (.cells #[.int .i64 xa, .int .i64 xn, .string xo, .int .i64 xf, .bool xs, .bool xw] 24)).alloc (.cells #[.int .i64 xa, .int .i64 (xn), .string xo, .int .i64 xf, .bool xs, .bool xw] 24)).alloc (.cells #[.int .i64 (p + n), .int .i64 (xa + xn - (p + n)), .string xo, .int .i64 (xf + (p + n) - xa), .bool xs, .bool xw] 24)) #[.int .i64 xa, .int .i64 (xn), .string xo, .int .i64 xf, .bool xs, .bool xw] 1 6 24 rfl
        rw [show (((wr.alloc (.cells #[.int .i64 xa, .int .i64 xn, .string xo, .int .i64 xf, .bool xs, .bool xw] 24)).alloc (.cells #[.int .i64 xa, .int .i64 (xn), .string xo, .int .i64 xf, .bool xs, .bool xw] 24)).alloc (.cells #[.int .i64 (p + n), .int .i64 (xa + xn - (p + n)), .string xo, .int .i64 (xf + (p + n) - xa), .bool xs, .bool xw] 24)).heap.size = wr.heap.size + 1 + 1 + 1 by simp] at hr6
        have HR6 := Lib.hid hr6
        have KK6 : Keeps [] wr ((((wr.alloc (.cells #[.int .i64 xa, .int .i64 xn, .string xo, .int .i64 xf, .bool xs, .bool xw] 24)).alloc (.cells #[.int .i64 xa, .int .i64 (xn), .string xo, .int .i64 xf, .bool xs, .bool xw] 24)).alloc (.cells #[.int .i64 (p + n), .int .i64 (xa + xn - (p + n)), .string xo, .int .i64 (xf + (p + n) - xa), .bool xs, .bool xw] 24)).alloc (.cells #[.int .i64 xa, .int .i64 (xn), .string xo, .int .i64 xf, .bool xs, .bool xw] 24)) := (HK3.out).alloc _
        have HO6 := Lib.hid (HO.out.same KK6)
        have HK6 := Lib.hid KK6
        clear hr6 KK6
        go_wp2_with (at_builtin; refine wpList_app _ rfl (.tmp 78) (.tmp 80) _ rfl 24 (.agg #[.int .i64 0, .int .i64 0, .string ⟨#[]⟩, .int .i64 0, .bool false, .bool false]) 6 48 Try.underlying22 HI.out rfl (by omega) (.slice Av P.length cv) _ _ rfl HO6.out.1 _ _ 1 1 (acs ⟨xa, xn, xo, xf, xs, xw⟩) rfl HR6.out (acs_one _) (by unfold maxLen; omega) (by omega) ?_)
        intro v6 w6 o6 k6 f6
        have O6 := HO.out.app HK6.out rfl o6 k6 f6 (by simp)
        obtain ⟨P6, hP6⟩ : ∃ z, P ++ [(⟨xa, xn, xo, xf, xs, xw⟩ : Ar)] = z := ⟨_, rfl⟩
        rw [hP6] at O6
        have hpl6 : P6.length ≤ 2 * (L.take k).length + 1 := by rw [← hP6, List.length_append]; exact Nat.succ_le_succ hpl
        have HP6 := Lib.hid hP6
        obtain ⟨A6, c6, hv6⟩ := O6.shape
        subst hv6
        have hoff : wr.heap.size + 1 + 1 ∉ fp (.slice Av P.length cv) := fun hg => by have := own_lt HO.out.1 hg; omega
        have bx6 := (HB12.out.alloc (.cells #[.int .i64 xa, .int .i64 (xn), .string xo, .int .i64 xf, .bool xs, .bool xw] 24)).keep k6 hoff
        have HO6' := Lib.hid O6
        have c0 := bx6.cell 0
        have c1 := bx6.cell 1
        have c2 := bx6.cell 2
        have c3 := bx6.cell 3
        have c4 := bx6.cell 4
        have c5 := bx6.cell 5
        clear o6 k6 f6 HO6 HR6 HK6 O6 hoff bx6 hP6
        have HF := Lib.hid (HO6'.out.same (Keeps.refl [] w6))
        go_wp2_with fail
        go_roundw
        case rel => exact ⟨k + 1, by omega, by go_num, by rw [HN.out, HP6.out]; exact HF.out⟩
        case measure => simp [intOf]; omega
      · have m1' : p - xa < xn := by omega
        clear m1
        by_cases m3 : 0 < p - xa
        · have m2 : xa < p + n := by omega
          by_cases m4 : 0 < xa + xn - (p + n)
          · have HN : Hid (unmA (L.take (k + 1)) p n = P ++ [⟨xa, p - xa, xo, xf, xs, xw⟩] ++ [⟨p + n, xa + xn - (p + n), xo, xf + (p + n) - xa, xs, xw⟩]) := Lib.hid (by
              rw [hn]
              unfold cutA lowA higA
              dsimp only
              rw [show min (p - xa) xn = p - xa by omega, show max (p + n) xa = p + n by omega]
              rw [if_pos (by omega), if_pos (by omega)]
              rw [show xf + ((p + n) - xa) = xf + (p + n) - xa by omega]
              simp)
            clear hn
            have B12 := Blk.new ((wr.alloc (.cells #[.int .i64 xa, .int .i64 xn, .string xo, .int .i64 xf, .bool xs, .bool xw] 24)).alloc (.cells #[.int .i64 xa, .int .i64 (p - xa), .string xo, .int .i64 xf, .bool xs, .bool xw] 24)) 24 #[.int .i64 (p + n), .int .i64 (xa + xn - (p + n)), .string xo, .int .i64 (xf + (p + n) - xa), .bool xs, .bool xw]
            rw [show ((wr.alloc (.cells #[.int .i64 xa, .int .i64 xn, .string xo, .int .i64 xf, .bool xs, .bool xw] 24)).alloc (.cells #[.int .i64 xa, .int .i64 (p - xa), .string xo, .int .i64 xf, .bool xs, .bool xw] 24)).heap.size = wr.heap.size + 1 + 1 by simp] at B12
            have HB12 := Lib.hid B12
            have K3 : Keeps [] wr (((wr.alloc (.cells #[.int .i64 xa, .int .i64 xn, .string xo, .int .i64 xf, .bool xs, .bool xw] 24)).alloc (.cells #[.int .i64 xa, .int .i64 (p - xa), .string xo, .int .i64 xf, .bool xs, .bool xw] 24)).alloc (.cells #[.int .i64 (p + n), .int .i64 (xa + xn - (p + n)), .string xo, .int .i64 (xf + (p + n) - xa), .bool xs, .bool xw] 24)) := (((Keeps.refl _ _).alloc _).alloc _).alloc _
            have HK3 := Lib.hid K3
            clear B12 K3
            have hr6 := reads_cells (((wr.alloc (.cells #[.int .i64 xa, .int .i64 xn, .string xo, .int .i64 xf, .bool xs, .bool xw] 24)).alloc (.cells #[.int .i64 xa, .int .i64 (p - xa), .string xo, .int .i64 xf, .bool xs, .bool xw] 24)).alloc (.cells #[.int .i64 (p + n), .int .i64 (xa + xn - (p + n)), .string xo, .int .i64 (xf + (p + n) - xa), .bool xs, .bool xw] 24)) #[.int .i64 xa, .int .i64 (p - xa), .string xo, .int .i64 xf, .bool xs, .bool xw] 1 6 24 rfl
            rw [show (((wr.alloc (.cells #[.int .i64 xa, .int .i64 xn, .string xo, .int .i64 xf, .bool xs, .bool xw] 24)).alloc (.cells #[.int .i64 xa, .int .i64 (p - xa), .string xo, .int .i64 xf, .bool xs, .bool xw] 24)).alloc (.cells #[.int .i64 (p + n), .int .i64 (xa + xn - (p + n)), .string xo, .int .i64 (xf + (p + n) - xa), .bool xs, .bool xw] 24)).heap.size = wr.heap.size + 1 + 1 + 1 by simp] at hr6
            have HR6 := Lib.hid hr6
            have KK6 : Keeps [] wr ((((wr.alloc (.cells #[.int .i64 xa, .int .i64 xn, .string xo, .int .i64 xf, .bool xs, .bool xw] 24)).alloc (.cells #[.int .i64 xa, .int .i64 (p - xa), .string xo, .int .i64 xf, .bool xs, .bool xw] 24)).alloc (.cells #[.int .i64 (p + n), .int .i64 (xa + xn - (p + n)), .string xo, .int .i64 (xf + (p + n) - xa), .bool xs, .bool xw] 24)).alloc (.cells #[.int .i64 xa, .int .i64 (p - xa), .string xo, .int .i64 xf, .bool xs, .bool xw] 24)) := (HK3.out).alloc _
            have HO6 := Lib.hid (HO.out.same KK6)
            have HK6 := Lib.hid KK6
            clear hr6 KK6
            go_wp2_with (at_builtin; refine wpList_app _ rfl (.tmp 78) (.tmp 80) _ rfl 24 (.agg #[.int .i64 0, .int .i64 0, .string ⟨#[]⟩, .int .i64 0, .bool false, .bool false]) 6 48 Try.underlying22 HI.out rfl (by omega) (.slice Av P.length cv) _ _ rfl HO6.out.1 _ _ 1 1 (acs ⟨xa, p - xa, xo, xf, xs, xw⟩) rfl HR6.out (acs_one _) (by unfold maxLen; omega) (by omega) ?_)
            intro v6 w6 o6 k6 f6
            have O6 := HO.out.app HK6.out rfl o6 k6 f6 (by simp)
            obtain ⟨P6, hP6⟩ : ∃ z, P ++ [(⟨xa, p - xa, xo, xf, xs, xw⟩ : Ar)] = z := ⟨_, rfl⟩
            rw [hP6] at O6
            have hpl6 : P6.length ≤ 2 * (L.take k).length + 1 := by rw [← hP6, List.length_append]; exact Nat.succ_le_succ hpl
            have HP6 := Lib.hid hP6
            obtain ⟨A6, c6, hv6⟩ := O6.shape
            subst hv6
            have hoff : wr.heap.size + 1 + 1 ∉ fp (.slice Av P.length cv) := fun hg => by have := own_lt HO.out.1 hg; omega
            have bx6 := (HB12.out.alloc (.cells #[.int .i64 xa, .int .i64 (p - xa), .string xo, .int .i64 xf, .bool xs, .bool xw] 24)).keep k6 hoff
            have HO6' := Lib.hid O6
            have c0 := bx6.cell 0
            have c1 := bx6.cell 1
            have c2 := bx6.cell 2
            have c3 := bx6.cell 3
            have c4 := bx6.cell 4
            have c5 := bx6.cell 5
            clear o6 k6 f6 HO6 HR6 HK6 O6 hoff bx6 hP6
            have hr8 := reads_cells (w6) #[.int .i64 (p + n), .int .i64 (xa + xn - (p + n)), .string xo, .int .i64 (xf + (p + n) - xa), .bool xs, .bool xw] 1 6 24 rfl
            have HR8 := Lib.hid hr8
            have KK8 : Keeps [] w6 ((w6).alloc (.cells #[.int .i64 (p + n), .int .i64 (xa + xn - (p + n)), .string xo, .int .i64 (xf + (p + n) - xa), .bool xs, .bool xw] 24)) := (Keeps.refl [] w6).alloc _
            have HO8 := Lib.hid (HO6'.out.same KK8)
            have HK8 := Lib.hid KK8
            clear hr8 KK8
            go_wp2_with (at_builtin; refine wpList_app _ rfl (.tmp 85) (.tmp 87) _ rfl 24 (.agg #[.int .i64 0, .int .i64 0, .string ⟨#[]⟩, .int .i64 0, .bool false, .bool false]) 6 48 Try.underlying22 HI.out rfl (by omega) (.slice A6 P6.length c6) _ _ rfl HO8.out.1 _ _ 1 1 (acs ⟨p + n, xa + xn - (p + n), xo, xf + (p + n) - xa, xs, xw⟩) rfl HR8.out (acs_one _) (by unfold maxLen; omega) (by omega) ?_)
            intro v8 w8 o8 k8 f8
            have O8 := HO6'.out.app HK8.out rfl o8 k8 f8 (by simp)
            have HF := Lib.hid O8
            clear o8 k8 f8 HO8 HR8 HK8 O8
            go_wp2_with fail
            go_roundw
            case rel => exact ⟨k + 1, by omega, by go_num, by rw [HN.out, HP6.out]; exact HF.out⟩
            case measure => simp [intOf]; omega
          · have m4' : xa + xn - (p + n) ≤ 0 := by omega
            clear m4
            have HN : Hid (unmA (L.take (k + 1)) p n = P ++ [⟨xa, p - xa, xo, xf, xs, xw⟩]) := Lib.hid (by
              rw [hn]
              unfold cutA lowA higA
              dsimp only
              rw [show min (p - xa) xn = p - xa by omega, show max (p + n) xa = p + n by omega]
              rw [if_pos (by omega), if_neg (by omega)]
              simp)
            clear hn
            have B12 := Blk.new ((wr.alloc (.cells #[.int .i64 xa, .int .i64 xn, .string xo, .int .i64 xf, .bool xs, .bool xw] 24)).alloc (.cells #[.int .i64 xa, .int .i64 (p - xa), .string xo, .int .i64 xf, .bool xs, .bool xw] 24)) 24 #[.int .i64 (p + n), .int .i64 (xa + xn - (p + n)), .string xo, .int .i64 (xf + (p + n) - xa), .bool xs, .bool xw]
            rw [show ((wr.alloc (.cells #[.int .i64 xa, .int .i64 xn, .string xo, .int .i64 xf, .bool xs, .bool xw] 24)).alloc (.cells #[.int .i64 xa, .int .i64 (p - xa), .string xo, .int .i64 xf, .bool xs, .bool xw] 24)).heap.size = wr.heap.size + 1 + 1 by simp] at B12
            have HB12 := Lib.hid B12
            have K3 : Keeps [] wr (((wr.alloc (.cells #[.int .i64 xa, .int .i64 xn, .string xo, .int .i64 xf, .bool xs, .bool xw] 24)).alloc (.cells #[.int .i64 xa, .int .i64 (p - xa), .string xo, .int .i64 xf, .bool xs, .bool xw] 24)).alloc (.cells #[.int .i64 (p + n), .int .i64 (xa + xn - (p + n)), .string xo, .int .i64 (xf + (p + n) - xa), .bool xs, .bool xw] 24)) := (((Keeps.refl _ _).alloc _).alloc _).alloc _
            have HK3 := Lib.hid K3
            clear B12 K3
            have hr6 := reads_cells (((wr.alloc (.cells #[.int .i64 xa, .int .i64 xn, .string xo, .int .i64 xf, .bool xs, .bool xw] 24)).alloc (.cells #[.int .i64 xa, .int .i64 (p - xa), .string xo, .int .i64 xf, .bool xs, .bool xw] 24)).alloc (.cells #[.int .i64 (p + n), .int .i64 (xa + xn - (p + n)), .string xo, .int .i64 (xf + (p + n) - xa), .bool xs, .bool xw] 24)) #[.int .i64 xa, .int .i64 (p - xa), .string xo, .int .i64 xf, .bool xs, .bool xw] 1 6 24 rfl
            rw [show (((wr.alloc (.cells #[.int .i64 xa, .int .i64 xn, .string xo, .int .i64 xf, .bool xs, .bool xw] 24)).alloc (.cells #[.int .i64 xa, .int .i64 (p - xa), .string xo, .int .i64 xf, .bool xs, .bool xw] 24)).alloc (.cells #[.int .i64 (p + n), .int .i64 (xa + xn - (p + n)), .string xo, .int .i64 (xf + (p + n) - xa), .bool xs, .bool xw] 24)).heap.size = wr.heap.size + 1 + 1 + 1 by simp] at hr6
            have HR6 := Lib.hid hr6
            have KK6 : Keeps [] wr ((((wr.alloc (.cells #[.int .i64 xa, .int .i64 xn, .string xo, .int .i64 xf, .bool xs, .bool xw] 24)).alloc (.cells #[.int .i64 xa, .int .i64 (p - xa), .string xo, .int .i64 xf, .bool xs, .bool xw] 24)).alloc (.cells #[.int .i64 (p + n), .int .i64 (xa + xn - (p + n)), .string xo, .int .i64 (xf + (p + n) - xa), .bool xs, .bool xw] 24)).alloc (.cells #[.int .i64 xa, .int .i64 (p - xa), .string xo, .int .i64 xf, .bool xs, .bool xw] 24)) := (HK3.out).alloc _
            have HO6 := Lib.hid (HO.out.same KK6)
            have HK6 := Lib.hid KK6
            clear hr6 KK6
            go_wp2_with (at_builtin; refine wpList_app _ rfl (.tmp 78) (.tmp 80) _ rfl 24 (.agg #[.int .i64 0, .int .i64 0, .string ⟨#[]⟩, .int .i64 0, .bool false, .bool false]) 6 48 Try.underlying22 HI.out rfl (by omega) (.slice Av P.length cv) _ _ rfl HO6.out.1 _ _ 1 1 (acs ⟨xa, p - xa, xo, xf, xs, xw⟩) rfl HR6.out (acs_one _) (by unfold maxLen; omega) (by omega) ?_)
            intro v6 w6 o6 k6 f6
            have O6 := HO.out.app HK6.out rfl o6 k6 f6 (by simp)
            obtain ⟨P6, hP6⟩ : ∃ z, P ++ [(⟨xa, p - xa, xo, xf, xs, xw⟩ : Ar)] = z := ⟨_, rfl⟩
            rw [hP6] at O6
            have hpl6 : P6.length ≤ 2 * (L.take k).length + 1 := by rw [← hP6, List.length_append]; exact Nat.succ_le_succ hpl
            have HP6 := Lib.hid hP6
            obtain ⟨A6, c6, hv6⟩ := O6.shape
            subst hv6
            have hoff : wr.heap.size + 1 + 1 ∉ fp (.slice Av P.length cv) := fun hg => by have := own_lt HO.out.1 hg; omega
            have bx6 := (HB12.out.alloc (.cells #[.int .i64 xa, .int .i64 (p - xa), .string xo, .int .i64 xf, .bool xs, .bool xw] 24)).keep k6 hoff
            have HO6' := Lib.hid O6
            have c0 := bx6.cell 0
            have c1 := bx6.cell 1
            have c2 := bx6.cell 2
            have c3 := bx6.cell 3
            have c4 := bx6.cell 4
            have c5 := bx6.cell 5
            clear o6 k6 f6 HO6 HR6 HK6 O6 hoff bx6 hP6
            have HF := Lib.hid (HO6'.out.same (Keeps.refl [] w6))
            go_wp2_with fail
            go_roundw
            case rel => exact ⟨k + 1, by omega, by go_num, by rw [HN.out, HP6.out]; exact HF.out⟩
            case measure => simp [intOf]; omega
        · have m3' : p - xa ≤ 0 := by omega
          clear m3
          by_cases m2 : xa < p + n
          · by_cases m4 : 0 < xa + xn - (p + n)
            · have HN : Hid (unmA (L.take (k + 1)) p n = P ++ [⟨p + n, xa + xn - (p + n), xo, xf + (p + n) - xa, xs, xw⟩]) := Lib.hid (by
                rw [hn]
                unfold cutA lowA higA
                dsimp only
                rw [show min (p - xa) xn = p - xa by omega, show max (p + n) xa = p + n by omega]
                rw [if_neg (by omega), if_pos (by omega)]
                rw [show xf + ((p + n) - xa) = xf + (p + n) - xa by omega]
                simp)
              clear hn
              have B12 := Blk.new ((wr.alloc (.cells #[.int .i64 xa, .int .i64 xn, .string xo, .int .i64 xf, .bool xs, .bool xw] 24)).alloc (.cells #[.int .i64 xa, .int .i64 (p - xa), .string xo, .int .i64 xf, .bool xs, .bool xw] 24)) 24 #[.int .i64 (p + n), .int .i64 (xa + xn - (p + n)), .string xo, .int .i64 (xf + (p + n) - xa), .bool xs, .bool xw]
              rw [show ((wr.alloc (.cells #[.int .i64 xa, .int .i64 xn, .string xo, .int .i64 xf, .bool xs, .bool xw] 24)).alloc (.cells #[.int .i64 xa, .int .i64 (p - xa), .string xo, .int .i64 xf, .bool xs, .bool xw] 24)).heap.size = wr.heap.size + 1 + 1 by simp] at B12
              have HB12 := Lib.hid B12
              have K3 : Keeps [] wr (((wr.alloc (.cells #[.int .i64 xa, .int .i64 xn, .string xo, .int .i64 xf, .bool xs, .bool xw] 24)).alloc (.cells #[.int .i64 xa, .int .i64 (p - xa), .string xo, .int .i64 xf, .bool xs, .bool xw] 24)).alloc (.cells #[.int .i64 (p + n), .int .i64 (xa + xn - (p + n)), .string xo, .int .i64 (xf + (p + n) - xa), .bool xs, .bool xw] 24)) := (((Keeps.refl _ _).alloc _).alloc _).alloc _
              have HK3 := Lib.hid K3
              clear B12 K3
              have hr8 := reads_cells (((wr.alloc (.cells #[.int .i64 xa, .int .i64 xn, .string xo, .int .i64 xf, .bool xs, .bool xw] 24)).alloc (.cells #[.int .i64 xa, .int .i64 (p - xa), .string xo, .int .i64 xf, .bool xs, .bool xw] 24)).alloc (.cells #[.int .i64 (p + n), .int .i64 (xa + xn - (p + n)), .string xo, .int .i64 (xf + (p + n) - xa), .bool xs, .bool xw] 24)) #[.int .i64 (p + n), .int .i64 (xa + xn - (p + n)), .string xo, .int .i64 (xf + (p + n) - xa), .bool xs, .bool xw] 1 6 24 rfl
              rw [show (((wr.alloc (.cells #[.int .i64 xa, .int .i64 xn, .string xo, .int .i64 xf, .bool xs, .bool xw] 24)).alloc (.cells #[.int .i64 xa, .int .i64 (p - xa), .string xo, .int .i64 xf, .bool xs, .bool xw] 24)).alloc (.cells #[.int .i64 (p + n), .int .i64 (xa + xn - (p + n)), .string xo, .int .i64 (xf + (p + n) - xa), .bool xs, .bool xw] 24)).heap.size = wr.heap.size + 1 + 1 + 1 by simp] at hr8
              have HR8 := Lib.hid hr8
              have KK8 : Keeps [] wr ((((wr.alloc (.cells #[.int .i64 xa, .int .i64 xn, .string xo, .int .i64 xf, .bool xs, .bool xw] 24)).alloc (.cells #[.int .i64 xa, .int .i64 (p - xa), .string xo, .int .i64 xf, .bool xs, .bool xw] 24)).alloc (.cells #[.int .i64 (p + n), .int .i64 (xa + xn - (p + n)), .string xo, .int .i64 (xf + (p + n) - xa), .bool xs, .bool xw] 24)).alloc (.cells #[.int .i64 (p + n), .int .i64 (xa + xn - (p + n)), .string xo, .int .i64 (xf + (p + n) - xa), .bool xs, .bool xw] 24)) := (HK3.out).alloc _
              have HO8 := Lib.hid (HO.out.same KK8)
              have HK8 := Lib.hid KK8
              clear hr8 KK8
              go_wp2_with (at_builtin; refine wpList_app _ rfl (.tmp 85) (.tmp 87) _ rfl 24 (.agg #[.int .i64 0, .int .i64 0, .string ⟨#[]⟩, .int .i64 0, .bool false, .bool false]) 6 48 Try.underlying22 HI.out rfl (by omega) (.slice Av P.length cv) _ _ rfl HO8.out.1 _ _ 1 1 (acs ⟨p + n, xa + xn - (p + n), xo, xf + (p + n) - xa, xs, xw⟩) rfl HR8.out (acs_one _) (by unfold maxLen; omega) (by omega) ?_)
              intro v8 w8 o8 k8 f8
              have O8 := HO.out.app HK8.out rfl o8 k8 f8 (by simp)
              have HF := Lib.hid O8
              clear o8 k8 f8 HO8 HR8 HK8 O8
              go_wp2_with fail
              go_roundw
              case rel => exact ⟨k + 1, by omega, by go_num, by rw [HN.out]; exact HF.out⟩
              case measure => simp [intOf]; omega
            · have m4' : xa + xn - (p + n) ≤ 0 := by omega
              clear m4
              have HN : Hid (unmA (L.take (k + 1)) p n = P) := Lib.hid (by
                rw [hn]
                unfold cutA lowA higA
                dsimp only
                rw [show min (p - xa) xn = p - xa by omega, show max (p + n) xa = p + n by omega]
                rw [if_neg (by omega), if_neg (by omega)]
                simp)
              clear hn
              have B12 := Blk.new ((wr.alloc (.cells #[.int .i64 xa, .int .i64 xn, .string xo, .int .i64 xf, .bool xs, .bool xw] 24)).alloc (.cells #[.int .i64 xa, .int .i64 (p - xa), .string xo, .int .i64 xf, .bool xs, .bool xw] 24)) 24 #[.int .i64 (p + n), .int .i64 (xa + xn - (p + n)), .string xo, .int .i64 (xf + (p + n) - xa), .bool xs, .bool xw]
              rw [show ((wr.alloc (.cells #[.int .i64 xa, .int .i64 xn, .string xo, .int .i64 xf, .bool xs, .bool xw] 24)).alloc (.cells #[.int .i64 xa, .int .i64 (p - xa), .string xo, .int .i64 xf, .bool xs, .bool xw] 24)).heap.size = wr.heap.size + 1 + 1 by simp] at B12
              have HB12 := Lib.hid B12
              have K3 : Keeps [] wr (((wr.alloc (.cells #[.int .i64 xa, .int .i64 xn, .string xo, .int .i64 xf, .bool xs, .bool xw] 24)).alloc (.cells #[.int .i64 xa, .int .i64 (p - xa), .string xo, .int .i64 xf, .bool xs, .bool xw] 24)).alloc (.cells #[.int .i64 (p + n), .int .i64 (xa + xn - (p + n)), .string xo, .int .i64 (xf + (p + n) - xa), .bool xs, .bool xw] 24)) := (((Keeps.refl _ _).alloc _).alloc _).alloc _
              have HK3 := Lib.hid K3
              clear B12 K3
              have HF := Lib.hid (HO.out.same (HK3.out))
              go_wp2_with fail
              go_roundw
              case rel => exact ⟨k + 1, by omega, by go_num, by rw [HN.out]; exact HF.out⟩
              case measure => simp [intOf]; omega
          · have m2' : p + n ≤ xa := by omega
            have m4 : 0 < xa + xn - xa := by omega
            clear m2
            have HN : Hid (unmA (L.take (k + 1)) p n = P ++ [⟨xa, xa + xn - xa, xo, xf, xs, xw⟩]) := Lib.hid (by
              rw [hn]
              unfold cutA lowA higA
              dsimp only
              rw [show min (p - xa) xn = p - xa by omega, show max (p + n) xa = xa by omega]
              rw [if_neg (by omega), if_pos (by omega)]
              rw [show xf + (xa - xa) = xf by omega]
              simp)
            clear hn
            have B12 := Blk.new ((wr.alloc (.cells #[.int .i64 xa, .int .i64 xn, .string xo, .int .i64 xf, .bool xs, .bool xw] 24)).alloc (.cells #[.int .i64 xa, .int .i64 (p - xa), .string xo, .int .i64 xf, .bool xs, .bool xw] 24)) 24 #[.int .i64 xa, .int .i64 (xa + xn - xa), .string xo, .int .i64 xf, .bool xs, .bool xw]
            rw [show ((wr.alloc (.cells #[.int .i64 xa, .int .i64 xn, .string xo, .int .i64 xf, .bool xs, .bool xw] 24)).alloc (.cells #[.int .i64 xa, .int .i64 (p - xa), .string xo, .int .i64 xf, .bool xs, .bool xw] 24)).heap.size = wr.heap.size + 1 + 1 by simp] at B12
            have HB12 := Lib.hid B12
            have K3 : Keeps [] wr (((wr.alloc (.cells #[.int .i64 xa, .int .i64 xn, .string xo, .int .i64 xf, .bool xs, .bool xw] 24)).alloc (.cells #[.int .i64 xa, .int .i64 (p - xa), .string xo, .int .i64 xf, .bool xs, .bool xw] 24)).alloc (.cells #[.int .i64 xa, .int .i64 (xa + xn - xa), .string xo, .int .i64 xf, .bool xs, .bool xw] 24)) := (((Keeps.refl _ _).alloc _).alloc _).alloc _
            have HK3 := Lib.hid K3
            clear B12 K3
            have hr8 := reads_cells (((wr.alloc (.cells #[.int .i64 xa, .int .i64 xn, .string xo, .int .i64 xf, .bool xs, .bool xw] 24)).alloc (.cells #[.int .i64 xa, .int .i64 (p - xa), .string xo, .int .i64 xf, .bool xs, .bool xw] 24)).alloc (.cells #[.int .i64 xa, .int .i64 (xa + xn - xa), .string xo, .int .i64 xf, .bool xs, .bool xw] 24)) #[.int .i64 xa, .int .i64 (xa + xn - xa), .string xo, .int .i64 xf, .bool xs, .bool xw] 1 6 24 rfl
            rw [show (((wr.alloc (.cells #[.int .i64 xa, .int .i64 xn, .string xo, .int .i64 xf, .bool xs, .bool xw] 24)).alloc (.cells #[.int .i64 xa, .int .i64 (p - xa), .string xo, .int .i64 xf, .bool xs, .bool xw] 24)).alloc (.cells #[.int .i64 xa, .int .i64 (xa + xn - xa), .string xo, .int .i64 xf, .bool xs, .bool xw] 24)).heap.size = wr.heap.size + 1 + 1 + 1 by simp] at hr8
            have HR8 := Lib.hid hr8
            have KK8 : Keeps [] wr ((((wr.alloc (.cells #[.int .i64 xa, .int .i64 xn, .string xo, .int .i64 xf, .bool xs, .bool xw] 24)).alloc (.cells #[.int .i64 xa, .int .i64 (p - xa), .string xo, .int .i64 xf, .bool xs, .bool xw] 24)).alloc (.cells #[.int .i64 xa, .int .i64 (xa + xn - xa), .string xo, .int .i64 xf, .bool xs, .bool xw] 24)).alloc (.cells #[.int .i64 xa, .int .i64 (xa + xn - xa), .string xo, .int .i64 xf, .bool xs, .bool xw] 24)) := (HK3.out).alloc _
            have HO8 := Lib.hid (HO.out.same KK8)
            have HK8 := Lib.hid KK8
            clear hr8 KK8
            go_wp2_with (at_builtin; refine wpList_app _ rfl (.tmp 85) (.tmp 87) _ rfl 24 (.agg #[.int .i64 0, .int .i64 0, .string ⟨#[]⟩, .int .i64 0, .bool false, .bool false]) 6 48 Try.underlying22 HI.out rfl (by omega) (.slice Av P.length cv) _ _ rfl HO8.out.1 _ _ 1 1 (acs ⟨xa, xa + xn - xa, xo, xf, xs, xw⟩) rfl HR8.out (acs_one _) (by unfold maxLen; omega) (by omega) ?_)
            intro v8 w8 o8 k8 f8
            have O8 := HO.out.app HK8.out rfl o8 k8 f8 (by simp)
            have HF := Lib.hid O8
            clear o8 k8 f8 HO8 HR8 HK8 O8
            go_wp2_with fail
            go_roundw
            case rel => exact ⟨k + 1, by omega, by go_num, by rw [HN.out]; exact HF.out⟩
            case measure => simp [intOf]; omega
    · obtain rfl : k = L.length := by omega
      rw [List.take_length] at HO hpl ⊢
      clear O
      by_cases h16 : 16 < (unmA L p n).length
      · have HE2 : Hid (unmE L p n = 6) := Lib.hid (by rw [HE.out, if_pos h16])
        have hp0 : (16 : Int) < ((unmA L p n).length : Int) := by omega
        obtain ⟨PL, hPL⟩ : ∃ z, z = (unmA L p n).length := ⟨_, rfl⟩
        rw [← hPL] at h16 hp0 hpl ⊢
        clear hPL
        go_wp2_with fail
        go_ret2
        exact .inr ⟨by rw [HE2.out]; omega, by rw [HE2.out]; rfl, HO.out.2.1⟩
      · have HE2 : Hid (unmE L p n = 0) := Lib.hid (by rw [HE.out, if_neg h16])
        have hp0 : ((unmA L p n).length : Int) ≤ 16 := by omega
        obtain ⟨P2, hP2⟩ : ∃ z, z = unmA L p n := ⟨_, rfl⟩
        have HP2 := Lib.hid hP2
        rw [← hP2] at h16 hp0 hpl HO ⊢
        clear hP2
        go_wp2_with fail
        go_ret2
        exact .inl ⟨HE2.out, _, rfl, by rw [← HP2.out]; exact HO.out⟩
theorem unmap_any (w : World) (A : Option Addr) (L : List Ar) (c : Nat) (p n : Int) (ha : AtL w A L) (hv : Vds L) :
    Calls Try.prog 10 #[.slice A L.length c, .int .i64 p, .int .i64 n] w (UnmP w A L c p n) := by
  cases h : unmR p n with
  | true => exact unm_ok w A L c p n ha hv h
  | false => exact unm_bad w A L c p n h
theorem runmap_any (w : World) (A : Option Addr) (L : List Ar) (c : Nat) (p n : Int) (ha : AtL w A L) (hv : Vds L) :
    Calls Try.prog 17 #[.slice A L.length c, .int .i64 p, .int .i64 n] w (UnmP w A L c p n) := by
  cases h : unmR p n with
  | true => exact runm_ok w A L c p n ha hv h
  | false => exact runm_bad w A L c p n h
end Go.Proofs.Ytiffjaociblboaa
