/- Statements of MmuCoheres, each by itself. -/
import Derived.Test.YteognipfnbocpaaW15
import Derived.Test.YteognipfnbocpaaOps
import Derived.Deep.CutRange
import Derived.Deep.CutBlock
import Derived.Deep.QuietTactic
import Derived.BigQuiet
namespace Go.Proofs.Yteognipfnbocpaa
open Go.RowKit

def theRegion (k : Nat) : Code → Option Code
  | .region id ops d => if id == k then some (.region id ops d) else none
  | .seq a b => match theRegion k a with
    | some c => some c
    | none => theRegion k b
  | .cond _ a b => match theRegion k a with
    | some c => some c
    | none => theRegion k b
  | .block _ c => theRegion k c
  | .loop c => theRegion k c
  | .scope c => theRegion k c
  | _ => none
noncomputable def creg14 : Code := ((Try.f4.body.bind (theRegion 14)).getD .skip)
set_option maxRecDepth 1000000 in
set_option maxHeartbeats 3200000 in
theorem creg14_any (w : World) (X Y : Nat) (N cpu : Int) (had ww wr want : Bool) (K : Exit → Act → World → Prop)
    (c1 : w.cell? ⟨X, 1, none⟩ = some (.int .i64 cpu)) (c5 : w.cell? ⟨X, 5, none⟩ = some (.bool wr)) (d2 : w.cell? ⟨Y, 2, none⟩ = some (.bool ww))
    (hw : (had && (ww || !wr) && decide (0 ≤ cpu) && decide (cpu < N)) = want)
    (u1 u2 u3 u4 u5 u6 u7 u11 u12 u13 u14 u15 u16 u17 u18 u19 u20 u21 u22 u23 u24 u25 u26 u27 u28 u29 u30 u31 u32 u33 u34 u35 u36 u37 u38 u39 u40 u41 u42 u43 u44 u45 u46 u47 u48 u49 u50 u51 u52 u53 u54 u55 u56 u57 u58 u59 u60 u61 u62 u63 u64 u65 u66 u67 u68 u69 u70 u71 u72 u73 u74 u75 u76 u77 u78 u79 u80 u81 u82 u83 u84 u85 u86 u87 u88 u89 u90 u91 u92 u93 u94 u95 u96 u97 u98 u99 u100 u101 u102 u103 u104 u105 u106 u107 u108 u109 u110 u111 u112 u113 u114 u115 u116 u117 u118 u119 u120 u121 u122 u123 u124 u125 u126 u127 u128 u129 u130 u131 u132 u133 u134 u135 u136 u137 u138 u139 u140 u141 u142 u143 u144 u145 u146 u147 u148 u149 u150 u151 u152 u153 u154 u155 : Value)
    (hK : ∀ (v67 v68 v69 v70 v71 v72 v73 v74 v75 v76 v77 v78 v79 v80 v81 v82 v83 v84 v85 v86 v87 : Value), K .normal ⟨#[.int .i64 N, u1, u2, u3, u4, u5, u6, u7, .pointer (some ⟨X, 0, none⟩), .pointer (some ⟨Y, 0, none⟩), .bool had, u11, u12, u13, .bool want, u15, u16, u17, u18, u19, u20, u21, u22, u23, u24, u25, u26, u27, u28, u29, u30, u31, u32, u33, u34, u35, u36, u37, u38, u39, u40, u41, u42, u43, u44, u45, u46, u47, u48, u49, u50, u51, u52, u53, u54, u55, u56, u57, u58, u59, u60, u61, u62, u63, u64, u65, u66, v67, v68, v69, v70, v71, v72, v73, v74, v75, v76, v77, v78, v79, v80, v81, v82, v83, v84, v85, v86, v87, u88, u89, u90, u91, u92, u93, u94, u95, u96, u97, u98, u99, u100, u101, u102, u103, u104, u105, u106, u107, u108, u109, u110, u111, u112, u113, u114, u115, u116, u117, u118, u119, u120, u121, u122, u123, u124, u125, u126, u127, u128, u129, u130, u131, u132, u133, u134, u135, u136, u137, u138, u139, u140, u141, u142, u143, u144, u145, u146, u147, u148, u149, u150, u151, u152, u153, u154, u155], []⟩ w) :
    Code.wp Try.prog creg14 K ⟨#[.int .i64 N, u1, u2, u3, u4, u5, u6, u7, .pointer (some ⟨X, 0, none⟩), .pointer (some ⟨Y, 0, none⟩), .bool had, u11, u12, u13, u14, u15, u16, u17, u18, u19, u20, u21, u22, u23, u24, u25, u26, u27, u28, u29, u30, u31, u32, u33, u34, u35, u36, u37, u38, u39, u40, u41, u42, u43, u44, u45, u46, u47, u48, u49, u50, u51, u52, u53, u54, u55, u56, u57, u58, u59, u60, u61, u62, u63, u64, u65, u66, u67, u68, u69, u70, u71, u72, u73, u74, u75, u76, u77, u78, u79, u80, u81, u82, u83, u84, u85, u86, u87, u88, u89, u90, u91, u92, u93, u94, u95, u96, u97, u98, u99, u100, u101, u102, u103, u104, u105, u106, u107, u108, u109, u110, u111, u112, u113, u114, u115, u116, u117, u118, u119, u120, u121, u122, u123, u124, u125, u126, u127, u128, u129, u130, u131, u132, u133, u134, u135, u136, u137, u138, u139, u140, u141, u142, u143, u144, u145, u146, u147, u148, u149, u150, u151, u152, u153, u154, u155], []⟩ w := by
  have HW := Lib.hid hw
  clear hw
  conv => arg 2; whnf
  dsimp only at hK ⊢
  cases had with
  | false =>
    obtain rfl : false = want := by rw [← HW.out]; rfl
    clear HW
    go_wp2_with fail
    exact hK _ _ _ _ _ _ _ _ _ _ _ _ _ _ _ _ _ _ _ _ _
  | true =>
    cases ww with
    | true =>
      by_cases j1 : 0 ≤ cpu
      · by_cases j2 : cpu < N
        · obtain rfl : true = want := by rw [← HW.out]; simp [j1, j2]
          clear HW
          have j3 : decide (0 ≤ cpu) = true := by simpa using j1
          go_wp2_with fail
          exact hK _ _ _ _ _ _ _ _ _ _ _ _ _ _ _ _ _ _ _ _ _
        · obtain rfl : false = want := by rw [← HW.out]; simp [j2]
          clear HW
          go_wp2_with fail
          exact hK _ _ _ _ _ _ _ _ _ _ _ _ _ _ _ _ _ _ _ _ _
      · obtain rfl : false = want := by rw [← HW.out]; simp [j1]
        clear HW
        go_wp2_with fail
        exact hK _ _ _ _ _ _ _ _ _ _ _ _ _ _ _ _ _ _ _ _ _
    | false =>
      cases wr with
      | true =>
        obtain rfl : false = want := by rw [← HW.out]; simp
        clear HW
        go_wp2_with fail
        exact hK _ _ _ _ _ _ _ _ _ _ _ _ _ _ _ _ _ _ _ _ _
      | false =>
        by_cases j1 : 0 ≤ cpu
        · by_cases j2 : cpu < N
          · obtain rfl : true = want := by rw [← HW.out]; simp [j1, j2]
            clear HW
            go_wp2_with fail
            exact hK _ _ _ _ _ _ _ _ _ _ _ _ _ _ _ _ _ _ _ _ _
          · obtain rfl : false = want := by rw [← HW.out]; simp [j2]
            clear HW
            go_wp2_with fail
            exact hK _ _ _ _ _ _ _ _ _ _ _ _ _ _ _ _ _ _ _ _ _
        · obtain rfl : false = want := by rw [← HW.out]; simp [j1]
          clear HW
          go_wp2_with fail
          exact hK _ _ _ _ _ _ _ _ _ _ _ _ _ _ _ _ _ _ _ _ _
noncomputable def creg15 : Code := ((Try.f4.body.bind (theRegion 15)).getD .skip)
set_option maxRecDepth 1000000 in
set_option maxHeartbeats 3200000 in
theorem creg15_any (w : World) (Y : Nat) (f b fr : Int) (want : Bool) (K : Exit → Act → World → Prop)
    (d1 : w.cell? ⟨Y, 1, none⟩ = some (.int .i64 fr)) (h1 : (b == 1) = want) (h2 : want = true → f = fr)
    (u0 u1 u2 u3 u4 u5 u6 u7 u8 u10 u13 u15 u16 u17 u18 u19 u20 u21 u22 u23 u24 u25 u26 u27 u28 u29 u30 u31 u32 u33 u34 u35 u36 u37 u38 u39 u40 u41 u42 u43 u44 u45 u46 u47 u48 u49 u50 u51 u52 u53 u54 u55 u56 u57 u58 u59 u60 u61 u62 u63 u64 u65 u66 u67 u68 u69 u70 u71 u72 u73 u74 u75 u76 u77 u78 u79 u80 u81 u82 u83 u84 u85 u86 u87 u88 u89 u90 u91 u92 u93 u94 u95 u96 u97 u98 u99 u100 u101 u102 u103 u104 u105 u106 u107 u108 u109 u110 u111 u112 u113 u114 u115 u116 u117 u118 u119 u120 u121 u122 u123 u124 u125 u126 u127 u128 u129 u130 u131 u132 u133 u134 u135 u136 u137 u138 u139 u140 u141 u142 u143 u144 u145 u146 u147 u148 u149 u150 u151 u152 u153 u154 u155 : Value)
    (hK : ∀ (v88 v89 v90 v91 v92 v93 v94 v95 v96 v97 v98 v99 : Value), K .normal ⟨#[u0, u1, u2, u3, u4, u5, u6, u7, u8, .pointer (some ⟨Y, 0, none⟩), u10, .int .i64 f, .int .i64 b, u13, .bool want, u15, u16, u17, u18, u19, u20, u21, u22, u23, u24, u25, u26, u27, u28, u29, u30, u31, u32, u33, u34, u35, u36, u37, u38, u39, u40, u41, u42, u43, u44, u45, u46, u47, u48, u49, u50, u51, u52, u53, u54, u55, u56, u57, u58, u59, u60, u61, u62, u63, u64, u65, u66, u67, u68, u69, u70, u71, u72, u73, u74, u75, u76, u77, u78, u79, u80, u81, u82, u83, u84, u85, u86, u87, v88, v89, v90, v91, v92, v93, v94, v95, v96, v97, v98, v99, .bool false, u101, u102, u103, u104, u105, u106, u107, u108, u109, u110, u111, u112, u113, u114, u115, u116, u117, u118, u119, u120, u121, u122, u123, u124, u125, u126, u127, u128, u129, u130, u131, u132, u133, u134, u135, u136, u137, u138, u139, u140, u141, u142, u143, u144, u145, u146, u147, u148, u149, u150, u151, u152, u153, u154, u155], []⟩ w) :
    Code.wp Try.prog creg15 K ⟨#[u0, u1, u2, u3, u4, u5, u6, u7, u8, .pointer (some ⟨Y, 0, none⟩), u10, .int .i64 f, .int .i64 b, u13, .bool want, u15, u16, u17, u18, u19, u20, u21, u22, u23, u24, u25, u26, u27, u28, u29, u30, u31, u32, u33, u34, u35, u36, u37, u38, u39, u40, u41, u42, u43, u44, u45, u46, u47, u48, u49, u50, u51, u52, u53, u54, u55, u56, u57, u58, u59, u60, u61, u62, u63, u64, u65, u66, u67, u68, u69, u70, u71, u72, u73, u74, u75, u76, u77, u78, u79, u80, u81, u82, u83, u84, u85, u86, u87, u88, u89, u90, u91, u92, u93, u94, u95, u96, u97, u98, u99, u100, u101, u102, u103, u104, u105, u106, u107, u108, u109, u110, u111, u112, u113, u114, u115, u116, u117, u118, u119, u120, u121, u122, u123, u124, u125, u126, u127, u128, u129, u130, u131, u132, u133, u134, u135, u136, u137, u138, u139, u140, u141, u142, u143, u144, u145, u146, u147, u148, u149, u150, u151, u152, u153, u154, u155], []⟩ w := by
  conv => arg 2; whnf
  dsimp only at hK ⊢
  cases want with
  | false =>
    clear h2
    go_wp2_with fail
    exact hK _ _ _ _ _ _ _ _ _ _ _ _
  | true =>
    obtain rfl := h2 rfl
    clear h2
    have t1 : (f != f) = false := by simp
    go_wp2_with fail
    exact hK _ _ _ _ _ _ _ _ _ _ _ _
end Go.Proofs.Yteognipfnbocpaa
