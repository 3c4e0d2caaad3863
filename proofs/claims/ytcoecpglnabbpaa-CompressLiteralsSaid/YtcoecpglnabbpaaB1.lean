/- CompressBack. -/
import Derived.Test.YtcoecpglnabbpaaW9
import Derived.Deep.CutRange
import Derived.Deep.CutBlock
namespace Go.Proofs.Ytcoecpglnabbpaa
open Go.RowKit

def theRegion (k : Nat) : Code → Option Code
  | .region id ops d => if id == k then some (.region id ops d) else none
  | .seq a b => match theRegion k a with
    | some c => some c
    | none => theRegion k b
  | .cond _ a b => match theRegion k a with
    | some c => some c
    | none => theRegion k b
  | .block _ c => theRegion k c
  | .loop c => theRegion k c
  | .scope c => theRegion k c
  | _ => none
noncomputable def breg8 : Code := ((Try.f4.body.bind (theRegion 8)).getD .skip)
set_option maxRecDepth 1000000 in
set_option maxHeartbeats 3200000 in
theorem breg8_any (w : World) (x y a b c : ByteArray) (one two three : Bool) (K : Exit → Act → World → Prop)
    (h1 : one = true → three = true ∧ (c.toList == x.toList) = true ∧ a.size ≤ 47 ∧ x.size = 64) (h2 : one = false → a = ⟨#[]⟩)
    (h3 : one = true → two = true → (a.toList == b.toList) = (x.toList == y.toList))
    (u2 u3 u4 u5 u6 u7 u14 u15 u16 u17 u18 u19 u20 u21 u22 u23 u24 u25 u26 u27 u28 u29 u30 u31 u32 u33 u34 u35 u36 u37 u38 u39 u40 u41 u42 u43 u44 u45 u46 u47 u48 u49 u50 u51 u52 u53 u54 u55 u56 u57 u58 u59 u60 u61 u62 u63 u64 u65 u66 u67 u68 u69 u70 u71 u72 u73 u74 u75 u76 u77 u78 u79 u80 u81 u82 u83 u84 u85 u86 u87 u88 u89 u90 u91 u92 u93 u94 u95 u96 u97 u98 u99 u100 u101 u102 u103 u104 u105 u106 u107 u108 u109 u110 u111 u112 u113 u114 u115 u116 u117 u118 u119 u120 u121 : Value)
    (hK : ∀ (v53 v54 v55 v56 v57 v58 v59 v60 v61 v62 v63 v64 v65 v66 v67 v68 v69 v70 v71 v72 v73 v74 v75 v76 v77 v78 v79 v80 v81 v82 v83 v84 v85 v86 v87 v88 v89 v90 v91 v92 v93 v94 : Value), K .normal ⟨#[.string x, .string y, u2, u3, u4, u5, u6, u7, .string a, .bool one, .string b, .bool two, .string c, .bool three, u14, u15, u16, u17, u18, u19, u20, u21, u22, u23, u24, u25, u26, u27, u28, u29, u30, u31, u32, u33, u34, u35, u36, u37, u38, u39, u40, u41, u42, u43, u44, u45, u46, u47, u48, u49, u50, u51, u52, v53, v54, v55, v56, v57, v58, v59, v60, v61, v62, v63, v64, v65, v66, v67, v68, v69, v70, v71, v72, v73, v74, v75, v76, v77, v78, v79, v80, v81, v82, v83, v84, v85, v86, v87, v88, v89, v90, v91, v92, v93, v94, .bool false, u96, u97, u98, u99, u100, u101, u102, u103, u104, u105, u106, u107, u108, u109, u110, u111, u112, u113, u114, u115, u116, u117, u118, u119, u120, u121], []⟩ w) :
    Code.wp Try.prog breg8 K ⟨#[.string x, .string y, u2, u3, u4, u5, u6, u7, .string a, .bool one, .string b, .bool two, .string c, .bool three, u14, u15, u16, u17, u18, u19, u20, u21, u22, u23, u24, u25, u26, u27, u28, u29, u30, u31, u32, u33, u34, u35, u36, u37, u38, u39, u40, u41, u42, u43, u44, u45, u46, u47, u48, u49, u50, u51, u52, u53, u54, u55, u56, u57, u58, u59, u60, u61, u62, u63, u64, u65, u66, u67, u68, u69, u70, u71, u72, u73, u74, u75, u76, u77, u78, u79, u80, u81, u82, u83, u84, u85, u86, u87, u88, u89, u90, u91, u92, u93, u94, u95, u96, u97, u98, u99, u100, u101, u102, u103, u104, u105, u106, u107, u108, u109, u110, u111, u112, u113, u114, u115, u116, u117, u118, u119, u120, u121], []⟩ w := by
  have H1 := Lib.hid h1
  have H2 := Lib.hid h2
  have H3 := Lib.hid h3
  clear h1 h2 h3
  conv => arg 2; whnf
  dsimp only at hK ⊢
  cases one with
  | false =>
    obtain rfl := H2.out rfl
    clear H1 H2 H3
    go_wp2_with fail
    exact hK _ _ _ _ _ _ _ _ _ _ _ _ _ _ _ _ _ _ _ _ _ _ _ _ _ _ _ _ _ _ _ _ _ _ _ _ _ _ _ _ _ _
  | true =>
    obtain ⟨rfl, t1, t2, t3⟩ := H1.out rfl
    have t4 : decide ((47 : Int) < a.size) = false := by simp; omega
    have t5 : ((x.size : Int) != 64) = false := by rw [t3]; rfl
    clear t2 t3
    cases two with
    | false =>
      clear H1 H2 H3
      go_wp2_with fail
      exact hK _ _ _ _ _ _ _ _ _ _ _ _ _ _ _ _ _ _ _ _ _ _ _ _ _ _ _ _ _ _ _ _ _ _ _ _ _ _ _ _ _ _
    | true =>
      have t6 := H3.out rfl rfl
      clear H1 H2 H3
      cases t7 : (x.toList == y.toList) with
      | true =>
        rw [t7] at t6
        go_wp2_with fail
        exact hK _ _ _ _ _ _ _ _ _ _ _ _ _ _ _ _ _ _ _ _ _ _ _ _ _ _ _ _ _ _ _ _ _ _ _ _ _ _ _ _ _ _
      | false =>
        rw [t7] at t6
        go_wp2_with fail
        exact hK _ _ _ _ _ _ _ _ _ _ _ _ _ _ _ _ _ _ _ _ _ _ _ _ _ _ _ _ _ _ _ _ _ _ _ _ _ _ _ _ _ _
theorem packR_2 {l : Bs} (h : (packR l).2 = true) : packP l = some (packR l).1 := by
  unfold packR at h ⊢
  cases hp : packP l with
  | none => rw [hp] at h; cases h
  | some t => rfl
theorem packR_0 {l : Bs} (h : (packR l).2 = false) : (packR l).1 = [] := by
  unfold packR at h ⊢
  cases hp : packP l with
  | none => rfl
  | some t => rw [hp] at h; cases h
theorem unpackR_2 {l : Bs} (h : (unpackR l).2 = true) : packP (unpackR l).1 = some l := by
  unfold unpackR at h ⊢
  cases hp : unpackP l with
  | none => rw [hp] at h; cases h
  | some t => exact unpackP_some.1 hp
theorem unpackR_0 {l : Bs} (h : (unpackR l).2 = false) : (unpackR l).1 = [] := by
  unfold unpackR at h ⊢
  cases hp : unpackP l with
  | none => rfl
  | some t => rw [hp] at h; cases h
theorem pack_inj {x y t : Bs} (h : packP x = some t) (h2 : packP y = some t) : x = y := by
  have h3 := unpackP_some.2 h
  rw [unpackP_some.2 h2] at h3
  injection h3 with h3
  exact h3.symm
theorem unpack_of {x t : Bs} (h : packP x = some t) : unpackR t = (x, true) := by
  unfold unpackR; rw [unpackP_some.2 h]
/-- A string of a list. -/
def st (l : Bs) : ByteArray := ⟨l.toArray⟩
theorem st_list (l : Bs) : (st l).toList = l := by rw [str_list]; rfl
theorem st_size (l : Bs) : (st l).size = l.length := List.size_toArray
theorem pack_st (w : World) (s : ByteArray) : Calls Try.prog 8 #[.string s] w fun e w' => e = .returned (.tuple #[.string (st (packR (bys s)).1), .bool (packR (bys s)).2]) ∧ Keeps [] w w' := (pack_any w s).mono fun _ _ ⟨h1, h2⟩ => ⟨h1, Keeps.of_below h2 _⟩
theorem unpack_st (w : World) (s : ByteArray) : Calls Try.prog 10 #[.string s] w fun e w' => e = .returned (.tuple #[.string (st (unpackR (bys s)).1), .bool (unpackR (bys s)).2]) ∧ Keeps [] w w' := (unpack_any w s).mono fun _ _ ⟨h1, h2⟩ => ⟨h1, Keeps.of_below h2 _⟩

set_option maxRecDepth 100000 in
set_option maxHeartbeats 6400000 in
theorem back_any (w : World) (x y s : ByteArray) (hx : x.size ≤ 9223372036854775807) (hy : y.size ≤ 9223372036854775807) (hs : s.size ≤ 9223372036854775807) :
    Calls Try.prog 4 #[.string x, .string y, .string s] w fun e w' => e = .returned (.bool true) ∧ Keeps [] w w' := by
  by_cases g1 : 100 < x.size ∨ 100 < y.size ∨ 100 < s.size
  · by_cases a1 : 100 < x.size
    · clear g1
      go_enter Try.func4, Try.ntmps4
      go_wp2_with fail
      refine (small_any _).mono ?_
      rintro e w1 ⟨rfl, k1⟩
      go_wp2
      go_ret
      exact ⟨rfl, k1⟩
    by_cases a2 : 100 < y.size
    · clear g1
      go_enter Try.func4, Try.ntmps4
      go_wp2_with fail
      refine (small_any _).mono ?_
      rintro e w1 ⟨rfl, k1⟩
      go_wp2
      go_ret
      exact ⟨rfl, k1⟩
    have a3 : 100 < s.size := by omega
    clear g1
    go_enter Try.func4, Try.ntmps4
    go_wp2_with fail
    refine (small_any _).mono ?_
    rintro e w1 ⟨rfl, k1⟩
    go_wp2
    go_ret
    exact ⟨rfl, k1⟩
  have b1 : x.size ≤ 100 := by omega
  have b2 : y.size ≤ 100 := by omega
  have b3 : s.size ≤ 100 := by omega
  clear g1 hx hy hs
  go_enter Try.func4, Try.ntmps4
  go_wp2_with fail
  refine (small_any _).mono ?_
  rintro e w1 ⟨rfl, k1⟩
  go_wp2_with fail
  refine (pack_st w1 x).mono ?_
  rintro e w2 ⟨rfl, k2⟩
  have K2 := k1.trans k2 (by simp)
  clear k1 k2
  go_wp2_with fail
  refine (pack_st w2 y).mono ?_
  rintro e w3 ⟨rfl, k3⟩
  have K3 := K2.trans k3 (by simp)
  clear K2 k3
  go_wp2_with fail
  refine (unpack_st w3 _).mono ?_
  rintro e w4 ⟨rfl, k4⟩
  have K4 := K3.trans k4 (by simp)
  clear K3 k4
  go_wp2_with fail
  refine (unpack_st w4 _).mono ?_
  rintro e w5 ⟨rfl, k5⟩
  have K5 := K4.trans k5 (by simp)
  clear K4 k5
  have hb1 : bys (st (packR (bys x)).1) = (packR (bys x)).1 := rfl
  rw [hb1]
  clear hb1
  go_upto_region 8 with fail
  refine breg8_any w5 x y (st (packR (bys x)).1) (st (packR (bys y)).1) (st (unpackR (packR (bys x)).1).1) (packR (bys x)).2 (packR (bys y)).2 (unpackR (packR (bys x)).1).2 _ ?_ ?_ ?_ _ _ _ _ _ _ _ _ _ _ _ _ _ _ _ _ _ _ _ _ _ _ _ _ _ _ _ _ _ _ _ _ _ _ _ _ _ _ _ _ _ _ _ _ _ _ _ _ _ _ _ _ _ _ _ _ _ _ _ _ _ _ _ _ _ _ _ _ _ _ _ _ _ _ _ _ _ _ _ _ _ _ _ _ _ _ _ _ _ _ _ _ _ _ _ _ _ _ _ _ _ _ _ _ _ _ _ _ _ _ _ _ _ _ ?_
  · intro h
    have hp := packR_2 h
    rw [unpack_of hp]
    obtain ⟨h1, h2, h3⟩ := packP_some hp
    refine ⟨rfl, by rw [st_list, str_list]; simp, by rw [st_size]; exact h3, by simpa using h1⟩
  · intro h
    rw [packR_0 h]; rfl
  · intro h1 h2
    have hp1 := packR_2 h1
    have hp2 := packR_2 h2
    rw [st_list, st_list, str_list, str_list]
    rw [Bool.eq_iff_iff]
    simp only [beq_iff_eq]
    constructor
    · intro h
      rw [h] at hp1
      exact pack_inj hp1 hp2
    · intro h
      rw [h]
  intro v53 v54 v55 v56 v57 v58 v59 v60 v61 v62 v63 v64 v65 v66 v67 v68 v69 v70 v71 v72 v73 v74 v75 v76 v77 v78 v79 v80 v81 v82 v83 v84 v85 v86 v87 v88 v89 v90 v91 v92 v93 v94
  cases h4 : (unpackR (bys s)).2 with
  | false =>
    have h5 := unpackR_0 h4
    rw [h5]
    have t1 : ((st []).toList == ([] : List UInt8)) = true := by rw [st_list]; rfl
    have t2 : (st []).toList = [] := st_list []
    clear h4 h5
    go_wp2_with fail
    go_ret
    exact ⟨rfl, K5⟩
  | true =>
    have hp := unpackR_2 h4
    obtain ⟨h1, h2, h3⟩ := packP_some hp
    have hp2 := packR_some hp
    have HP := Lib.hid hp2
    have HZ := Lib.hid (show (st (unpackR (bys s)).1).size = 64 by rw [st_size]; exact h1)
    clear h4 hp h1 h2 h3 hp2
    go_wp2_with fail
    refine (pack_st w5 _).mono ?_
    have hb1 : bys (st (unpackR (bys s)).1) = (unpackR (bys s)).1 := rfl
    rw [hb1, HP.out]
    clear hb1
    rintro e w6 ⟨rfl, k6⟩
    have K6 := K5.trans k6 (by simp)
    have t1 : ((st (bys s)).toList == s.toList) = true := by rw [st_list, str_list]; simp
    have t2 : (((st (unpackR (bys s)).1).size : Int) == 64) = true := by rw [HZ.out]; rfl
    clear K5 k6
    go_wp2_with fail
    go_ret
    exact ⟨rfl, K6⟩
end Go.Proofs.Ytcoecpglnabbpaa
