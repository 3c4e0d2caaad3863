/- One statement of TlbBounds: whether the operation is about an entry. -/
import Derived.Test.YtkfcoemdpcjhfaaB1
import Derived.Test.YtkfcoemdpcjhfaaW11
import Derived.Test.YtkfcoemdpcjhfaaOps
namespace Go.Proofs.Ytkfcoemdpcjhfaa
open Go.RowKit

def theRegion (k : Nat) : Code → Option Code
  | .region id ops d => if id == k then some (.region id ops d) else none
  | .seq a b => match theRegion k a with
    | some c => some c
    | none => theRegion k b
  | .cond _ a b => match theRegion k a with
    | some c => some c
    | none => theRegion k b
  | .block _ c => theRegion k c
  | .loop c => theRegion k c
  | .scope c => theRegion k c
  | _ => none
noncomputable def reg19 : Code := ((Try.f5.body.bind (theRegion 19)).getD .skip)

set_option maxRecDepth 1000000 in
set_option maxHeartbeats 3200000 in
theorem reg19_any (w : World) (q : Int) (bl off m c i xb : Nat) (d : Nat → Int) (en : Nat → En) (e : En) (hit : Bool) (K : Exit → Act → World → Prop) (him : i < m)
    (O : ActsAt w bl off m d en) (B : Blk w xb 34 #[.int .i64 e.s, .int .i64 e.p, .int .i64 e.f, .bool e.w])
    (hh : ((q == 5 && e.is (en i).s (en i).p) || (q == 6 && e.f == (en i).f) || (q == 7 && e.s == (en i).s)) = hit)
    (u0 u2 u3 u4 u5 u6 u8 u9 u10 u11 u13 u14 u16 u17 u18 u19 u20 u21 u22 u23 u24 u25 u26 u27 u28 u29 u30 u31 u32 u33 u34 u35 u36 u37 u38 u39 u40 u41 u42 u43 u44 u45 u46 u47 u48 u49 u50 u51 u52 u53 u54 u55 u56 u57 u58 u59 u60 u61 u62 u63 u64 u65 u66 u67 u68 u69 u70 u71 u72 u73 u74 u75 u76 u77 u78 u79 u80 u81 u82 u83 u84 u85 u86 u87 u88 u89 u90 u91 u92 u93 u94 u95 u96 u97 u98 u99 u100 u101 u102 u103 u104 u105 u106 u107 u108 u109 u110 u111 u112 u113 u114 u115 u116 u117 u118 u119 u120 u121 u122 u123 u124 u125 u126 u127 u128 u129 u130 u131 u132 u133 u134 u135 u136 u137 u138 u139 u140 u141 u142 u143 u144 u145 u146 u147 u148 u149 u150 u151 u152 u153 u154 u155 u156 u157 u158 u159 u160 u161 u162 u163 u164 u165 u166 u167 u168 u169 u170 u171 u172 u173 u174 u175 u176 u177 u178 u179 u180 u181 u182 u183 u184 u185 u186 u187 u188 u189 u190 u191 u192 u193 u194 u195 u196 u197 u198 u199 u200 u201 u202 u203 : Value)
    (hK : ∀ (v78 v79 v80 v81 v82 v83 v84 v85 v86 v87 v88 v89 v90 v91 v92 v93 v94 v95 v96 v97 v98 v99 v100 v101 v102 v103 v104 v105 v106 v107 v108 v109 v110 v111 v112 v113 v114 v115 v116 v117 v118 v119 v120 v121 v122 v123 v124 v125 v126 v127 : Value) (nq : Nat), K .normal ⟨#[u0, .slice (some ⟨bl, off, none⟩) m c, u2, u3, u4, u5, u6, .int .i64 i, u8, u9, u10, u11, .int .i64 q, u13, u14, .pointer (some ⟨xb, 0, none⟩), .bool hit, u17, u18, u19, u20, u21, u22, u23, u24, u25, u26, u27, u28, u29, u30, u31, u32, u33, u34, u35, u36, u37, u38, u39, u40, u41, u42, u43, u44, u45, u46, u47, u48, u49, u50, u51, u52, u53, u54, u55, u56, u57, u58, u59, u60, u61, u62, u63, u64, u65, u66, u67, u68, u69, u70, u71, u72, u73, u74, u75, u76, u77, v78, v79, v80, v81, v82, v83, v84, v85, v86, v87, v88, v89, v90, v91, v92, v93, v94, v95, v96, v97, v98, v99, v100, v101, v102, v103, v104, v105, v106, v107, v108, v109, v110, v111, v112, v113, v114, v115, v116, v117, v118, v119, v120, v121, v122, v123, v124, v125, v126, v127, u128, u129, u130, u131, u132, u133, u134, u135, u136, u137, u138, u139, u140, u141, u142, u143, u144, u145, u146, u147, u148, u149, u150, u151, u152, u153, u154, u155, u156, u157, u158, u159, u160, u161, u162, u163, u164, u165, u166, u167, u168, u169, u170, u171, u172, u173, u174, u175, u176, u177, u178, u179, u180, u181, u182, u183, u184, u185, u186, u187, u188, u189, u190, u191, u192, u193, u194, u195, u196, u197, u198, u199, u200, u201, u202, u203], []⟩ (w.drewN nq)) :
    Code.wp Try.prog reg19 K ⟨#[u0, .slice (some ⟨bl, off, none⟩) m c, u2, u3, u4, u5, u6, .int .i64 i, u8, u9, u10, u11, .int .i64 q, u13, u14, .pointer (some ⟨xb, 0, none⟩), u16, u17, u18, u19, u20, u21, u22, u23, u24, u25, u26, u27, u28, u29, u30, u31, u32, u33, u34, u35, u36, u37, u38, u39, u40, u41, u42, u43, u44, u45, u46, u47, u48, u49, u50, u51, u52, u53, u54, u55, u56, u57, u58, u59, u60, u61, u62, u63, u64, u65, u66, u67, u68, u69, u70, u71, u72, u73, u74, u75, u76, u77, u78, u79, u80, u81, u82, u83, u84, u85, u86, u87, u88, u89, u90, u91, u92, u93, u94, u95, u96, u97, u98, u99, u100, u101, u102, u103, u104, u105, u106, u107, u108, u109, u110, u111, u112, u113, u114, u115, u116, u117, u118, u119, u120, u121, u122, u123, u124, u125, u126, u127, u128, u129, u130, u131, u132, u133, u134, u135, u136, u137, u138, u139, u140, u141, u142, u143, u144, u145, u146, u147, u148, u149, u150, u151, u152, u153, u154, u155, u156, u157, u158, u159, u160, u161, u162, u163, u164, u165, u166, u167, u168, u169, u170, u171, u172, u173, u174, u175, u176, u177, u178, u179, u180, u181, u182, u183, u184, u185, u186, u187, u188, u189, u190, u191, u192, u193, u194, u195, u196, u197, u198, u199, u200, u201, u202, u203], []⟩ w := by
  have r1 := O.c1 i him
  have r2 := O.c2 i him
  have r3 := O.c3 i him
  have x0 := B.cell 0
  have x1 := B.cell 1
  have x2 := B.cell 2
  have j1 : (0 : Int) ≤ i := by omega
  have j2 : (i : Int) < m := by omega
  have HH := Lib.hid hh
  clear hh O B
  conv => arg 2; whnf
  dsimp only at hK ⊢
  by_cases q5 : q = 5
  · subst q5
    cases e1 : (e.s == (en i).s) with
    | false =>
      obtain rfl : false = hit := by rw [← HH.out]; simp [En.is, e1]
      clear HH
      go_quiet (fail)
      exact hK _ _ _ _ _ _ _ _ _ _ _ _ _ _ _ _ _ _ _ _ _ _ _ _ _ _ _ _ _ _ _ _ _ _ _ _ _ _ _ _ _ _ _ _ _ _ _ _ _ _ nq
    | true =>
      cases e2 : (e.p == (en i).p) with
      | false =>
        obtain rfl : false = hit := by rw [← HH.out]; simp [En.is, e1, e2]
        clear HH
        go_quiet (fail)
        exact hK _ _ _ _ _ _ _ _ _ _ _ _ _ _ _ _ _ _ _ _ _ _ _ _ _ _ _ _ _ _ _ _ _ _ _ _ _ _ _ _ _ _ _ _ _ _ _ _ _ _ nq
      | true =>
        obtain rfl : true = hit := by rw [← HH.out]; simp [En.is, e1, e2]
        clear HH
        go_quiet (fail)
        exact hK _ _ _ _ _ _ _ _ _ _ _ _ _ _ _ _ _ _ _ _ _ _ _ _ _ _ _ _ _ _ _ _ _ _ _ _ _ _ _ _ _ _ _ _ _ _ _ _ _ _ nq
  have n5 : (q == 5) = false := by simpa using q5
  by_cases q6 : q = 6
  · subst q6
    cases e1 : (e.f == (en i).f) with
    | false =>
      obtain rfl : false = hit := by rw [← HH.out]; simp [e1]
      clear HH
      go_quiet (fail)
      exact hK _ _ _ _ _ _ _ _ _ _ _ _ _ _ _ _ _ _ _ _ _ _ _ _ _ _ _ _ _ _ _ _ _ _ _ _ _ _ _ _ _ _ _ _ _ _ _ _ _ _ nq
    | true =>
      obtain rfl : true = hit := by rw [← HH.out]; simp [e1]
      clear HH
      go_quiet (fail)
      exact hK _ _ _ _ _ _ _ _ _ _ _ _ _ _ _ _ _ _ _ _ _ _ _ _ _ _ _ _ _ _ _ _ _ _ _ _ _ _ _ _ _ _ _ _ _ _ _ _ _ _ nq
  have n6 : (q == 6) = false := by simpa using q6
  by_cases q7 : q = 7
  · subst q7
    cases e1 : (e.s == (en i).s) with
    | false =>
      obtain rfl : false = hit := by rw [← HH.out]; simp [e1]
      clear HH
      go_quiet (fail)
      exact hK _ _ _ _ _ _ _ _ _ _ _ _ _ _ _ _ _ _ _ _ _ _ _ _ _ _ _ _ _ _ _ _ _ _ _ _ _ _ _ _ _ _ _ _ _ _ _ _ _ _ nq
    | true =>
      obtain rfl : true = hit := by rw [← HH.out]; simp [e1]
      clear HH
      go_quiet (fail)
      exact hK _ _ _ _ _ _ _ _ _ _ _ _ _ _ _ _ _ _ _ _ _ _ _ _ _ _ _ _ _ _ _ _ _ _ _ _ _ _ _ _ _ _ _ _ _ _ _ _ _ _ nq
  have n7 : (q == 7) = false := by simpa using q7
  obtain rfl : false = hit := by rw [← HH.out]; simp [n5, n6, n7]
  clear HH
  go_quiet (fail)
  exact hK _ _ _ _ _ _ _ _ _ _ _ _ _ _ _ _ _ _ _ _ _ _ _ _ _ _ _ _ _ _ _ _ _ _ _ _ _ _ _ _ _ _ _ _ _ _ _ _ _ _ nq
end Go.Proofs.Ytkfcoemdpcjhfaa
