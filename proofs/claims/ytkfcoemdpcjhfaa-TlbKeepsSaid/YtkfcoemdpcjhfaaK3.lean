/- Statements of TlbKeeps, one by one. -/
import Derived.Test.YtkfcoemdpcjhfaaB4
import Derived.Test.YtkfcoemdpcjhfaaK1
namespace Go.Proofs.Ytkfcoemdpcjhfaa
open Go.RowKit

noncomputable def kreg12 : Code := ((Try.f4.body.bind (theRegion 12)).getD .skip)
set_option maxRecDepth 1000000 in
set_option maxHeartbeats 3200000 in
theorem kreg12_any (w : World) (s p d : Int) (xb : Nat) (x : En) (B : Blk w xb 29 #[.int .i64 d, .int .i64 x.s, .int .i64 x.p, .int .i64 x.f, .bool x.w]) (K : Exit → Act → World → Prop)
    (u0 u3 u4 u5 u6 u7 u8 u9 u10 u11 u12 u13 u14 u16 u17 u18 u19 u20 u21 u22 u23 u24 u25 u26 u27 u28 u29 u30 u31 u32 u33 u34 u35 u36 u37 u38 u39 u40 u41 u42 u43 u44 u45 u46 u47 u48 u49 u50 u51 u52 u53 u54 u55 u56 u57 u58 u59 u60 u61 u62 u63 u64 u65 u66 u67 u68 u69 u70 u71 u72 u73 u74 u75 u76 u77 u78 u79 u80 u81 u82 u83 u84 u85 u86 u87 u88 u89 u90 u91 u92 u93 u94 u95 u96 u97 u98 u99 u100 u101 u102 u103 u104 u105 u106 u107 u108 u109 u110 u111 u112 u113 u114 u115 u116 u117 u118 u119 u120 u121 u122 u123 u124 u125 u126 u127 u128 u129 u130 u131 u132 u133 u134 u135 u136 u137 u138 u139 u140 u141 u142 u143 u144 u145 u146 u147 u148 u149 u150 u151 u152 u153 u154 u155 u156 u157 u158 u159 u160 u161 u162 u163 u164 u165 u166 u167 u168 u169 u170 u171 u172 u173 u174 u175 u176 u177 u178 u179 u180 u181 u182 u183 u184 u185 u186 u187 u188 u189 u190 u191 u192 : Value)
    (hK : ∀ (v65 v66 v67 v68 v69 v70 v71 v72 v73 v74 : Value), K .normal ⟨#[u0, .int .i64 s, .int .i64 p, u3, u4, u5, u6, u7, u8, u9, u10, u11, u12, u13, u14, .pointer (some ⟨xb, 0, none⟩), u16, .bool (sameB x s p), u18, u19, u20, u21, u22, u23, u24, u25, u26, u27, u28, u29, u30, u31, u32, u33, u34, u35, u36, u37, u38, u39, u40, u41, u42, u43, u44, u45, u46, u47, u48, u49, u50, u51, u52, u53, u54, u55, u56, u57, u58, u59, u60, u61, u62, u63, u64, v65, v66, v67, v68, v69, v70, v71, v72, v73, v74, u75, u76, u77, u78, u79, u80, u81, u82, u83, u84, u85, u86, u87, u88, u89, u90, u91, u92, u93, u94, u95, u96, u97, u98, u99, u100, u101, u102, u103, u104, u105, u106, u107, u108, u109, u110, u111, u112, u113, u114, u115, u116, u117, u118, u119, u120, u121, u122, u123, u124, u125, u126, u127, u128, u129, u130, u131, u132, u133, u134, u135, u136, u137, u138, u139, u140, u141, u142, u143, u144, u145, u146, u147, u148, u149, u150, u151, u152, u153, u154, u155, u156, u157, u158, u159, u160, u161, u162, u163, u164, u165, u166, u167, u168, u169, u170, u171, u172, u173, u174, u175, u176, u177, u178, u179, u180, u181, u182, u183, u184, u185, u186, u187, u188, u189, u190, u191, u192], []⟩ w) :
    Code.wp Try.prog kreg12 K ⟨#[u0, .int .i64 s, .int .i64 p, u3, u4, u5, u6, u7, u8, u9, u10, u11, u12, u13, u14, .pointer (some ⟨xb, 0, none⟩), u16, u17, u18, u19, u20, u21, u22, u23, u24, u25, u26, u27, u28, u29, u30, u31, u32, u33, u34, u35, u36, u37, u38, u39, u40, u41, u42, u43, u44, u45, u46, u47, u48, u49, u50, u51, u52, u53, u54, u55, u56, u57, u58, u59, u60, u61, u62, u63, u64, u65, u66, u67, u68, u69, u70, u71, u72, u73, u74, u75, u76, u77, u78, u79, u80, u81, u82, u83, u84, u85, u86, u87, u88, u89, u90, u91, u92, u93, u94, u95, u96, u97, u98, u99, u100, u101, u102, u103, u104, u105, u106, u107, u108, u109, u110, u111, u112, u113, u114, u115, u116, u117, u118, u119, u120, u121, u122, u123, u124, u125, u126, u127, u128, u129, u130, u131, u132, u133, u134, u135, u136, u137, u138, u139, u140, u141, u142, u143, u144, u145, u146, u147, u148, u149, u150, u151, u152, u153, u154, u155, u156, u157, u158, u159, u160, u161, u162, u163, u164, u165, u166, u167, u168, u169, u170, u171, u172, u173, u174, u175, u176, u177, u178, u179, u180, u181, u182, u183, u184, u185, u186, u187, u188, u189, u190, u191, u192], []⟩ w := by
  have c1 := B.cell 1
  have c2 := B.cell 2
  clear B
  conv => arg 2; whnf
  dsimp only at hK ⊢
  cases e1 : (x.s == s) with
  | false =>
    have e : sameB x s p = false := by unfold sameB; rw [e1]; rfl
    rw [e] at hK
    clear e
    go_wp2_with fail
    exact hK _ _ _ _ _ _ _ _ _ _
  | true =>
    have e : sameB x s p = (x.p == p) := by unfold sameB; rw [e1]; rfl
    rw [e] at hK
    clear e
    go_wp2_with fail
    exact hK _ _ _ _ _ _ _ _ _ _
theorem quit_5 {sm : Bool} {x : En} {s f : Int} : quitB 5 sm x s f = sm := by simp [quitB]
theorem quit_6 {sm : Bool} {x : En} {s f : Int} : quitB 6 sm x s f = (x.f == f) := by simp [quitB]
theorem quit_7 {sm : Bool} {x : En} {s f : Int} : quitB 7 sm x s f = (x.s == s) := by simp [quitB]
theorem quit_3 {q : Int} {sm : Bool} {x : En} {s f : Int} (h1 : 3 ≤ q) (h2 : q ≤ 4) : quitB q sm x s f = sm := by
  have a : (q == 5) = false := by simp; omega
  have b : (q == 6) = false := by simp; omega
  have c : (q == 7) = false := by simp; omega
  simp [quitB, a, b, c, h1, h2]
theorem quit_0 {q : Int} {sm : Bool} {x : En} {s f : Int} (h1 : q < 3) : quitB q sm x s f = false := by
  have a : (q == 5) = false := by simp; omega
  have b : (q == 6) = false := by simp; omega
  have c : (q == 7) = false := by simp; omega
  have e : decide (3 ≤ q) = false := by simp; omega
  simp [quitB, a, b, c, e]

noncomputable def kreg13 : Code := ((Try.f4.body.bind (theRegion 13)).getD .skip)
set_option maxRecDepth 1000000 in
set_option maxHeartbeats 3200000 in
theorem kreg13_any (w : World) (s f d q : Int) (sm : Bool) (xb : Nat) (x : En) (hq1 : 0 ≤ q) (hq2 : q < 8) (B : Blk w xb 29 #[.int .i64 d, .int .i64 x.s, .int .i64 x.p, .int .i64 x.f, .bool x.w]) (K : Exit → Act → World → Prop)
    (u0 u2 u4 u5 u6 u7 u8 u9 u10 u11 u12 u13 u14 u18 u19 u20 u21 u22 u23 u24 u25 u26 u27 u28 u29 u30 u31 u32 u33 u34 u35 u36 u37 u38 u39 u40 u41 u42 u43 u44 u45 u46 u47 u48 u49 u50 u51 u52 u53 u54 u55 u56 u57 u58 u59 u60 u61 u62 u63 u64 u65 u66 u67 u68 u69 u70 u71 u72 u73 u74 u75 u76 u77 u78 u79 u80 u81 u82 u83 u84 u85 u86 u87 u88 u89 u90 u91 u92 u93 u94 u95 u96 u97 u98 u99 u100 u101 u102 u103 u104 u105 u106 u107 u108 u109 u110 u111 u112 u113 u114 u115 u116 u117 u118 u119 u120 u121 u122 u123 u124 u125 u126 u127 u128 u129 u130 u131 u132 u133 u134 u135 u136 u137 u138 u139 u140 u141 u142 u143 u144 u145 u146 u147 u148 u149 u150 u151 u152 u153 u154 u155 u156 u157 u158 u159 u160 u161 u162 u163 u164 u165 u166 u167 u168 u169 u170 u171 u172 u173 u174 u175 u176 u177 u178 u179 u180 u181 u182 u183 u184 u185 u186 u187 u188 u189 u190 u191 u192 : Value)
    (hK : ∀ (v75 v76 v77 v78 v79 v80 v81 v82 v83 v84 v85 v86 v87 v88 v89 v90 v91 v92 v93 v94 v95 v96 v97 v98 v99 v100 v101 v102 v103 v104 v105 v106 v107 v108 v109 : Value), K .normal ⟨#[u0, .int .i64 s, u2, .int .i64 f, u4, u5, u6, u7, u8, u9, u10, u11, u12, u13, u14, .pointer (some ⟨xb, 0, none⟩), .int .i64 q, .bool sm, u18, u19, u20, u21, u22, u23, u24, u25, u26, u27, u28, u29, u30, u31, u32, u33, u34, u35, u36, u37, u38, u39, u40, u41, u42, u43, u44, u45, u46, u47, u48, u49, u50, u51, u52, u53, u54, u55, u56, u57, u58, u59, u60, u61, u62, u63, u64, u65, u66, u67, u68, u69, u70, u71, u72, u73, u74, v75, v76, v77, v78, v79, v80, v81, v82, v83, v84, v85, v86, v87, v88, v89, v90, v91, v92, v93, v94, v95, v96, v97, v98, v99, v100, v101, v102, v103, v104, v105, v106, v107, v108, v109, .bool (quitB q sm x s f), u111, u112, u113, u114, u115, u116, u117, u118, u119, u120, u121, u122, u123, u124, u125, u126, u127, u128, u129, u130, u131, u132, u133, u134, u135, u136, u137, u138, u139, u140, u141, u142, u143, u144, u145, u146, u147, u148, u149, u150, u151, u152, u153, u154, u155, u156, u157, u158, u159, u160, u161, u162, u163, u164, u165, u166, u167, u168, u169, u170, u171, u172, u173, u174, u175, u176, u177, u178, u179, u180, u181, u182, u183, u184, u185, u186, u187, u188, u189, u190, u191, u192], []⟩ w) :
    Code.wp Try.prog kreg13 K ⟨#[u0, .int .i64 s, u2, .int .i64 f, u4, u5, u6, u7, u8, u9, u10, u11, u12, u13, u14, .pointer (some ⟨xb, 0, none⟩), .int .i64 q, .bool sm, u18, u19, u20, u21, u22, u23, u24, u25, u26, u27, u28, u29, u30, u31, u32, u33, u34, u35, u36, u37, u38, u39, u40, u41, u42, u43, u44, u45, u46, u47, u48, u49, u50, u51, u52, u53, u54, u55, u56, u57, u58, u59, u60, u61, u62, u63, u64, u65, u66, u67, u68, u69, u70, u71, u72, u73, u74, u75, u76, u77, u78, u79, u80, u81, u82, u83, u84, u85, u86, u87, u88, u89, u90, u91, u92, u93, u94, u95, u96, u97, u98, u99, u100, u101, u102, u103, u104, u105, u106, u107, u108, u109, u110, u111, u112, u113, u114, u115, u116, u117, u118, u119, u120, u121, u122, u123, u124, u125, u126, u127, u128, u129, u130, u131, u132, u133, u134, u135, u136, u137, u138, u139, u140, u141, u142, u143, u144, u145, u146, u147, u148, u149, u150, u151, u152, u153, u154, u155, u156, u157, u158, u159, u160, u161, u162, u163, u164, u165, u166, u167, u168, u169, u170, u171, u172, u173, u174, u175, u176, u177, u178, u179, u180, u181, u182, u183, u184, u185, u186, u187, u188, u189, u190, u191, u192], []⟩ w := by
  have c1 := B.cell 1
  have c3 := B.cell 3
  clear B
  conv => arg 2; whnf
  dsimp only at hK ⊢
  obtain rfl | rfl | rfl | ⟨h1, h2⟩ | h1 : q = 5 ∨ q = 6 ∨ q = 7 ∨ (3 ≤ q ∧ q ≤ 4) ∨ q < 3 := by omega
  · rw [quit_5] at hK
    cases sm with
    | false =>
      go_wp2_with fail
      exact hK _ _ _ _ _ _ _ _ _ _ _ _ _ _ _ _ _ _ _ _ _ _ _ _ _ _ _ _ _ _ _ _ _ _ _
    | true =>
      go_wp2_with fail
      exact hK _ _ _ _ _ _ _ _ _ _ _ _ _ _ _ _ _ _ _ _ _ _ _ _ _ _ _ _ _ _ _ _ _ _ _
  · rw [quit_6] at hK
    cases e : (x.f == f) with
    | false =>
      rw [e] at hK
      go_wp2_with fail
      exact hK _ _ _ _ _ _ _ _ _ _ _ _ _ _ _ _ _ _ _ _ _ _ _ _ _ _ _ _ _ _ _ _ _ _ _
    | true =>
      rw [e] at hK
      go_wp2_with fail
      exact hK _ _ _ _ _ _ _ _ _ _ _ _ _ _ _ _ _ _ _ _ _ _ _ _ _ _ _ _ _ _ _ _ _ _ _
  · rw [quit_7] at hK
    cases e : (x.s == s) with
    | false =>
      rw [e] at hK
      go_wp2_with fail
      exact hK _ _ _ _ _ _ _ _ _ _ _ _ _ _ _ _ _ _ _ _ _ _ _ _ _ _ _ _ _ _ _ _ _ _ _
    | true =>
      rw [e] at hK
      go_wp2_with fail
      exact hK _ _ _ _ _ _ _ _ _ _ _ _ _ _ _ _ _ _ _ _ _ _ _ _ _ _ _ _ _ _ _ _ _ _ _
  · rw [quit_3 h1 h2] at hK
    have a : (q == 5) = false := by simp; omega
    have b : (q == 6) = false := by simp; omega
    have c : (q == 7) = false := by simp; omega
    have a1 : decide (3 ≤ q) = true := by simp; omega
    have a2 : decide (q ≤ 4) = true := by simp; omega
    cases sm with
    | false =>
      go_wp2_with fail
      exact hK _ _ _ _ _ _ _ _ _ _ _ _ _ _ _ _ _ _ _ _ _ _ _ _ _ _ _ _ _ _ _ _ _ _ _
    | true =>
      go_wp2_with fail
      exact hK _ _ _ _ _ _ _ _ _ _ _ _ _ _ _ _ _ _ _ _ _ _ _ _ _ _ _ _ _ _ _ _ _ _ _
  · rw [quit_0 h1] at hK
    have a : (q == 5) = false := by simp; omega
    have b : (q == 6) = false := by simp; omega
    have c : (q == 7) = false := by simp; omega
    have a1 : decide (3 ≤ q) = false := by simp; omega
    go_wp2_with fail
    exact hK _ _ _ _ _ _ _ _ _ _ _ _ _ _ _ _ _ _ _ _ _ _ _ _ _ _ _ _ _ _ _ _ _ _ _

noncomputable def kreg16 : Code := ((Try.f4.body.bind (theRegion 16)).getD .skip)
set_option maxRecDepth 1000000 in
set_option maxHeartbeats 3200000 in
theorem kreg16_any (w : World) (q : Int) (sm : Bool) (K : Exit → Act → World → Prop)
    (u0 u1 u2 u3 u4 u5 u6 u7 u8 u9 u10 u11 u12 u13 u14 u15 u18 u19 u20 u21 u22 u23 u24 u25 u26 u27 u28 u29 u30 u31 u32 u33 u34 u35 u36 u37 u38 u39 u40 u41 u42 u43 u44 u45 u46 u47 u48 u49 u50 u51 u52 u53 u54 u55 u56 u57 u58 u59 u60 u61 u62 u63 u64 u65 u66 u67 u68 u69 u70 u71 u72 u73 u74 u75 u76 u77 u78 u79 u80 u81 u82 u83 u84 u85 u86 u87 u88 u89 u90 u91 u92 u93 u94 u95 u96 u97 u98 u99 u100 u101 u102 u103 u104 u105 u106 u107 u108 u109 u110 u111 u112 u113 u114 u115 u116 u117 u118 u119 u120 u121 u122 u123 u124 u125 u126 u127 u128 u129 u130 u131 u132 u133 u134 u135 u136 u137 u138 u139 u140 u141 u142 u143 u144 u145 u146 u147 u148 u149 u150 u151 u152 u153 u154 u155 u156 u157 u158 u159 u160 u161 u162 u163 u164 u165 u166 u167 u168 u169 u170 u171 u172 u173 u174 u175 u176 u177 u178 u179 u180 u181 u182 u183 u184 u185 u186 u187 u188 u189 u190 u191 u192 : Value)
    (hK : ∀ (v118 v119 v120 v121 : Value), K .normal ⟨#[u0, u1, u2, u3, u4, u5, u6, u7, u8, u9, u10, u11, u12, u13, u14, u15, .int .i64 q, .bool sm, u18, u19, u20, u21, u22, u23, u24, u25, u26, u27, u28, u29, u30, u31, u32, u33, u34, u35, u36, u37, u38, u39, u40, u41, u42, u43, u44, u45, u46, u47, u48, u49, u50, u51, u52, u53, u54, u55, u56, u57, u58, u59, u60, u61, u62, u63, u64, u65, u66, u67, u68, u69, u70, u71, u72, u73, u74, u75, u76, u77, u78, u79, u80, u81, u82, u83, u84, u85, u86, u87, u88, u89, u90, u91, u92, u93, u94, u95, u96, u97, u98, u99, u100, u101, u102, u103, u104, u105, u106, u107, u108, u109, u110, u111, u112, u113, u114, u115, u116, u117, v118, v119, v120, v121, .bool (decide (q < 3) && sm), u123, u124, u125, u126, u127, u128, u129, u130, u131, u132, u133, u134, u135, u136, u137, u138, u139, u140, u141, u142, u143, u144, u145, u146, u147, u148, u149, u150, u151, u152, u153, u154, u155, u156, u157, u158, u159, u160, u161, u162, u163, u164, u165, u166, u167, u168, u169, u170, u171, u172, u173, u174, u175, u176, u177, u178, u179, u180, u181, u182, u183, u184, u185, u186, u187, u188, u189, u190, u191, u192], []⟩ w) :
    Code.wp Try.prog kreg16 K ⟨#[u0, u1, u2, u3, u4, u5, u6, u7, u8, u9, u10, u11, u12, u13, u14, u15, .int .i64 q, .bool sm, u18, u19, u20, u21, u22, u23, u24, u25, u26, u27, u28, u29, u30, u31, u32, u33, u34, u35, u36, u37, u38, u39, u40, u41, u42, u43, u44, u45, u46, u47, u48, u49, u50, u51, u52, u53, u54, u55, u56, u57, u58, u59, u60, u61, u62, u63, u64, u65, u66, u67, u68, u69, u70, u71, u72, u73, u74, u75, u76, u77, u78, u79, u80, u81, u82, u83, u84, u85, u86, u87, u88, u89, u90, u91, u92, u93, u94, u95, u96, u97, u98, u99, u100, u101, u102, u103, u104, u105, u106, u107, u108, u109, u110, u111, u112, u113, u114, u115, u116, u117, u118, u119, u120, u121, u122, u123, u124, u125, u126, u127, u128, u129, u130, u131, u132, u133, u134, u135, u136, u137, u138, u139, u140, u141, u142, u143, u144, u145, u146, u147, u148, u149, u150, u151, u152, u153, u154, u155, u156, u157, u158, u159, u160, u161, u162, u163, u164, u165, u166, u167, u168, u169, u170, u171, u172, u173, u174, u175, u176, u177, u178, u179, u180, u181, u182, u183, u184, u185, u186, u187, u188, u189, u190, u191, u192], []⟩ w := by
  conv => arg 2; whnf
  dsimp only at hK ⊢
  by_cases h : q < 3
  · have a : decide (q < 3) = true := by simp [h]
    rw [a] at hK
    go_wp2_with fail
    exact hK _ _ _ _
  · have a : decide (q < 3) = false := by simp; omega
    rw [a] at hK
    go_wp2_with fail
    exact hK _ _ _ _

noncomputable def kreg20 : Code := ((Try.f4.body.bind (theRegion 20)).getD .skip)
set_option maxRecDepth 1000000 in
set_option maxHeartbeats 3200000 in
theorem kreg20_any (w : World) (q : Int) (ok : Bool) (K : Exit → Act → World → Prop)
    (u0 u1 u2 u3 u4 u5 u6 u7 u8 u9 u10 u11 u12 u13 u14 u15 u17 u18 u20 u21 u22 u23 u24 u25 u26 u27 u28 u29 u30 u31 u32 u33 u34 u35 u36 u37 u38 u39 u40 u41 u42 u43 u44 u45 u46 u47 u48 u49 u50 u51 u52 u53 u54 u55 u56 u57 u58 u59 u60 u61 u62 u63 u64 u65 u66 u67 u68 u69 u70 u71 u72 u73 u74 u75 u76 u77 u78 u79 u80 u81 u82 u83 u84 u85 u86 u87 u88 u89 u90 u91 u92 u93 u94 u95 u96 u97 u98 u99 u100 u101 u102 u103 u104 u105 u106 u107 u108 u109 u110 u111 u112 u113 u114 u115 u116 u117 u118 u119 u120 u121 u122 u123 u124 u125 u126 u127 u128 u129 u130 u131 u132 u133 u134 u135 u136 u137 u138 u139 u140 u141 u142 u143 u144 u145 u146 u147 u148 u149 u150 u151 u152 u153 u154 u155 u156 u157 u158 u159 u160 u161 u162 u163 u164 u165 u166 u167 u168 u169 u170 u171 u172 u173 u174 u175 u176 u177 u178 u179 u180 u181 u182 u183 u184 u185 u186 u187 u188 u189 u190 u191 u192 : Value)
    (hK : ∀ (v125 v126 v127 v128 v129 v130 v131 v132 v133 : Value), K .normal ⟨#[u0, u1, u2, u3, u4, u5, u6, u7, u8, u9, u10, u11, u12, u13, u14, u15, .int .i64 q, u17, u18, .bool ok, u20, u21, u22, u23, u24, u25, u26, u27, u28, u29, u30, u31, u32, u33, u34, u35, u36, u37, u38, u39, u40, u41, u42, u43, u44, u45, u46, u47, u48, u49, u50, u51, u52, u53, u54, u55, u56, u57, u58, u59, u60, u61, u62, u63, u64, u65, u66, u67, u68, u69, u70, u71, u72, u73, u74, u75, u76, u77, u78, u79, u80, u81, u82, u83, u84, u85, u86, u87, u88, u89, u90, u91, u92, u93, u94, u95, u96, u97, u98, u99, u100, u101, u102, u103, u104, u105, u106, u107, u108, u109, u110, u111, u112, u113, u114, u115, u116, u117, u118, u119, u120, u121, u122, u123, u124, v125, v126, v127, v128, v129, v130, v131, v132, v133, .bool (skipB q ok), u135, u136, u137, u138, u139, u140, u141, u142, u143, u144, u145, u146, u147, u148, u149, u150, u151, u152, u153, u154, u155, u156, u157, u158, u159, u160, u161, u162, u163, u164, u165, u166, u167, u168, u169, u170, u171, u172, u173, u174, u175, u176, u177, u178, u179, u180, u181, u182, u183, u184, u185, u186, u187, u188, u189, u190, u191, u192], []⟩ w) :
    Code.wp Try.prog kreg20 K ⟨#[u0, u1, u2, u3, u4, u5, u6, u7, u8, u9, u10, u11, u12, u13, u14, u15, .int .i64 q, u17, u18, .bool ok, u20, u21, u22, u23, u24, u25, u26, u27, u28, u29, u30, u31, u32, u33, u34, u35, u36, u37, u38, u39, u40, u41, u42, u43, u44, u45, u46, u47, u48, u49, u50, u51, u52, u53, u54, u55, u56, u57, u58, u59, u60, u61, u62, u63, u64, u65, u66, u67, u68, u69, u70, u71, u72, u73, u74, u75, u76, u77, u78, u79, u80, u81, u82, u83, u84, u85, u86, u87, u88, u89, u90, u91, u92, u93, u94, u95, u96, u97, u98, u99, u100, u101, u102, u103, u104, u105, u106, u107, u108, u109, u110, u111, u112, u113, u114, u115, u116, u117, u118, u119, u120, u121, u122, u123, u124, u125, u126, u127, u128, u129, u130, u131, u132, u133, u134, u135, u136, u137, u138, u139, u140, u141, u142, u143, u144, u145, u146, u147, u148, u149, u150, u151, u152, u153, u154, u155, u156, u157, u158, u159, u160, u161, u162, u163, u164, u165, u166, u167, u168, u169, u170, u171, u172, u173, u174, u175, u176, u177, u178, u179, u180, u181, u182, u183, u184, u185, u186, u187, u188, u189, u190, u191, u192], []⟩ w := by
  conv => arg 2; whnf
  dsimp only at hK ⊢
  by_cases h : 4 < q
  · have a : decide (4 < q) = true := by simp [h]
    have e : skipB q ok = true := by unfold skipB; rw [a]; rfl
    rw [e] at hK
    clear e
    go_wp2_with fail
    exact hK _ _ _ _ _ _ _ _ _
  have a : decide (4 < q) = false := by simp; omega
  by_cases h3 : q < 3
  · have a3 : decide (q < 3) = true := by simp [h3]
    have e : skipB q ok = !ok := by unfold skipB; rw [a, a3]; rfl
    rw [e] at hK
    clear e
    go_wp2_with fail
    exact hK _ _ _ _ _ _ _ _ _
  · have a3 : decide (q < 3) = false := by simp; omega
    have e : skipB q ok = false := by unfold skipB; rw [a, a3]; rfl
    rw [e] at hK
    clear e
    go_wp2_with fail
    exact hK _ _ _ _ _ _ _ _ _

noncomputable def kreg25 : Code := ((Try.f4.body.bind (theRegion 25)).getD .skip)
set_option maxRecDepth 1000000 in
set_option maxHeartbeats 3200000 in
theorem kreg25_any (w : World) (d : Int) (fo : Bool) (xb g co k : Nat) (x : En) (O : List En) (hk : k < O.length) (o : w.ownsRow 0 34 4 (.slice (some ⟨g, 0, none⟩) O.length co) O.length (es O)) (B : Blk w xb 29 #[.int .i64 d, .int .i64 x.s, .int .i64 x.p, .int .i64 x.f, .bool x.w]) (K : Exit → Act → World → Prop)
    (u0 u1 u2 u3 u4 u5 u6 u7 u8 u9 u10 u11 u12 u14 u16 u17 u18 u19 u22 u23 u24 u25 u26 u27 u28 u29 u30 u31 u32 u33 u34 u35 u36 u37 u38 u39 u40 u41 u42 u43 u44 u45 u46 u47 u48 u49 u50 u51 u52 u53 u54 u55 u56 u57 u58 u59 u60 u61 u62 u63 u64 u65 u66 u67 u68 u69 u70 u71 u72 u73 u74 u75 u76 u77 u78 u79 u80 u81 u82 u83 u84 u85 u86 u87 u88 u89 u90 u91 u92 u93 u94 u95 u96 u97 u98 u99 u100 u101 u102 u103 u104 u105 u106 u107 u108 u109 u110 u111 u112 u113 u114 u115 u116 u117 u118 u119 u120 u121 u122 u123 u124 u125 u126 u127 u128 u129 u130 u131 u132 u133 u134 u135 u136 u137 u138 u139 u140 u141 u142 u143 u144 u145 u146 u147 u148 u149 u150 u151 u152 u153 u154 u155 u156 u157 u158 u159 u160 u161 u162 u163 u164 u165 u166 u167 u168 u169 u170 u171 u172 u173 u174 u175 u176 u177 u178 u179 u180 u181 u182 u183 u184 u185 u186 u187 u188 u189 u190 u191 u192 : Value)
    (hK : ∀ (v141 v142 v143 v144 v145 v146 v147 v148 v149 v150 v151 v152 v153 v154 v155 v156 v157 v158 v159 v160 v161 : Value) (nq : Nat), K .normal ⟨#[u0, u1, u2, u3, u4, u5, u6, u7, u8, u9, u10, u11, u12, .slice (some ⟨g, 0, none⟩) O.length co, u14, .pointer (some ⟨xb, 0, none⟩), u16, u17, u18, u19, .bool (fo || O[k].is x.s x.p), .int .i64 k, u22, u23, u24, u25, u26, u27, u28, u29, u30, u31, u32, u33, u34, u35, u36, u37, u38, u39, u40, u41, u42, u43, u44, u45, u46, u47, u48, u49, u50, u51, u52, u53, u54, u55, u56, u57, u58, u59, u60, u61, u62, u63, u64, u65, u66, u67, u68, u69, u70, u71, u72, u73, u74, u75, u76, u77, u78, u79, u80, u81, u82, u83, u84, u85, u86, u87, u88, u89, u90, u91, u92, u93, u94, u95, u96, u97, u98, u99, u100, u101, u102, u103, u104, u105, u106, u107, u108, u109, u110, u111, u112, u113, u114, u115, u116, u117, u118, u119, u120, u121, u122, u123, u124, u125, u126, u127, u128, u129, u130, u131, u132, u133, u134, u135, u136, u137, u138, u139, u140, v141, v142, v143, v144, v145, v146, v147, v148, v149, v150, v151, v152, v153, v154, v155, v156, v157, v158, v159, v160, v161, u162, u163, u164, u165, u166, u167, u168, u169, u170, u171, u172, u173, u174, u175, u176, u177, u178, u179, u180, u181, u182, u183, u184, u185, u186, u187, u188, u189, u190, u191, u192], []⟩ (w.drewN nq)) :
    Code.wp Try.prog kreg25 K ⟨#[u0, u1, u2, u3, u4, u5, u6, u7, u8, u9, u10, u11, u12, .slice (some ⟨g, 0, none⟩) O.length co, u14, .pointer (some ⟨xb, 0, none⟩), u16, u17, u18, u19, .bool fo, .int .i64 k, u22, u23, u24, u25, u26, u27, u28, u29, u30, u31, u32, u33, u34, u35, u36, u37, u38, u39, u40, u41, u42, u43, u44, u45, u46, u47, u48, u49, u50, u51, u52, u53, u54, u55, u56, u57, u58, u59, u60, u61, u62, u63, u64, u65, u66, u67, u68, u69, u70, u71, u72, u73, u74, u75, u76, u77, u78, u79, u80, u81, u82, u83, u84, u85, u86, u87, u88, u89, u90, u91, u92, u93, u94, u95, u96, u97, u98, u99, u100, u101, u102, u103, u104, u105, u106, u107, u108, u109, u110, u111, u112, u113, u114, u115, u116, u117, u118, u119, u120, u121, u122, u123, u124, u125, u126, u127, u128, u129, u130, u131, u132, u133, u134, u135, u136, u137, u138, u139, u140, u141, u142, u143, u144, u145, u146, u147, u148, u149, u150, u151, u152, u153, u154, u155, u156, u157, u158, u159, u160, u161, u162, u163, u164, u165, u166, u167, u168, u169, u170, u171, u172, u173, u174, u175, u176, u177, u178, u179, u180, u181, u182, u183, u184, u185, u186, u187, u188, u189, u190, u191, u192], []⟩ w := by
  have c1 := B.cell 1
  have c2 := B.cell 2
  have x0 := own_cell o (j := k * 4) (u := .int .i64 O[k].s) (by rw [show k * 4 = k * 4 + 0 by omega, es_at hk (by omega)]; rfl)
  have x1 := own_cell o (j := k * 4 + 1) (u := .int .i64 O[k].p) (by rw [es_at hk (by omega)]; rfl)
  have j1 : (0 : Int) ≤ k := by omega
  have j2 : (k : Int) < O.length := by omega
  clear B o
  generalize O[k] = y at *
  generalize O.length = n at *
  conv => arg 2; whnf
  dsimp only at hK ⊢
  cases fo with
  | true =>
    go_quiet (fail)
    exact hK _ _ _ _ _ _ _ _ _ _ _ _ _ _ _ _ _ _ _ _ _ nq
  | false =>
    cases e1 : (y.s == x.s) with
    | false =>
      have e : y.is x.s x.p = false := by unfold En.is; rw [e1]; rfl
      rw [e] at hK
      clear e
      go_quiet (fail)
      exact hK _ _ _ _ _ _ _ _ _ _ _ _ _ _ _ _ _ _ _ _ _ nq
    | true =>
      have e : y.is x.s x.p = (y.p == x.p) := by unfold En.is; rw [e1]; rfl
      rw [e] at hK
      clear e
      go_quiet (fail)
      exact hK _ _ _ _ _ _ _ _ _ _ _ _ _ _ _ _ _ _ _ _ _ nq
end Go.Proofs.Ytkfcoemdpcjhfaa
