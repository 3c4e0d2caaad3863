/- One statement of TlbBounds: no two entries of one page. -/
import Derived.Test.YtkfcoemdpcjhfaaB3
namespace Go.Proofs.Ytkfcoemdpcjhfaa
open Go.RowKit

noncomputable def reg32 : Code := ((Try.f5.body.bind (theRegion 32)).getD .skip)

set_option maxRecDepth 1000000 in
set_option maxHeartbeats 3200000 in
theorem reg32_any (w : World) (t : Tl) (g ca a b : Nat) (K : Exit → Act → World → Prop) (ha : a < t.L.length) (hb : b < a)
    (o : w.ownsRow 0 34 4 (.slice (some ⟨g, 0, none⟩) t.L.length ca) t.L.length (es t.L)) (hd : Nd t.L)
    (u0 u1 u2 u3 u4 u5 u6 u7 u8 u9 u10 u12 u13 u14 u15 u16 u19 u20 u21 u22 u23 u24 u25 u26 u27 u28 u29 u30 u31 u32 u33 u34 u35 u36 u37 u38 u39 u40 u41 u42 u43 u44 u45 u46 u47 u48 u49 u50 u51 u52 u53 u54 u55 u56 u57 u58 u59 u60 u61 u62 u63 u64 u65 u66 u67 u68 u69 u70 u71 u72 u73 u74 u75 u76 u77 u78 u79 u80 u81 u82 u83 u84 u85 u86 u87 u88 u89 u90 u91 u92 u93 u94 u95 u96 u97 u98 u99 u100 u101 u102 u103 u104 u105 u106 u107 u108 u109 u110 u111 u112 u113 u114 u115 u116 u117 u118 u119 u120 u121 u122 u123 u124 u125 u126 u127 u128 u129 u130 u131 u132 u133 u134 u135 u136 u137 u138 u139 u140 u141 u142 u143 u144 u145 u146 u147 u148 u149 u150 u151 u152 u153 u154 u155 u156 u157 u158 u159 u160 u161 u162 u163 u164 u165 u166 u167 u168 u169 u170 u171 u172 u173 u174 u175 u176 u177 u178 u179 u180 u181 u182 u183 u184 u185 u186 u187 u188 u189 u190 u191 u192 u193 u194 u195 u196 u197 u198 u199 u200 u201 u202 u203 : Value)
    (hK : ∀ (v179 v180 v181 v182 v183 v184 v185 v186 v187 v188 v189 v190 v191 v192 v193 v194 v195 v196 v197 v198 v199 v200 v201 : Value) (nq : Nat), K .normal ⟨#[u0, u1, u2, u3, u4, u5, u6, u7, u8, u9, u10, .slice (some ⟨g, 0, none⟩) t.L.length ca, u12, u13, u14, u15, u16, .int .i64 a, .int .i64 b, u19, u20, u21, u22, u23, u24, u25, u26, u27, u28, u29, u30, u31, u32, u33, u34, u35, u36, u37, u38, u39, u40, u41, u42, u43, u44, u45, u46, u47, u48, u49, u50, u51, u52, u53, u54, u55, u56, u57, u58, u59, u60, u61, u62, u63, u64, u65, u66, u67, u68, u69, u70, u71, u72, u73, u74, u75, u76, u77, u78, u79, u80, u81, u82, u83, u84, u85, u86, u87, u88, u89, u90, u91, u92, u93, u94, u95, u96, u97, u98, u99, u100, u101, u102, u103, u104, u105, u106, u107, u108, u109, u110, u111, u112, u113, u114, u115, u116, u117, u118, u119, u120, u121, u122, u123, u124, u125, u126, u127, u128, u129, u130, u131, u132, u133, u134, u135, u136, u137, u138, u139, u140, u141, u142, u143, u144, u145, u146, u147, u148, u149, u150, u151, u152, u153, u154, u155, u156, u157, u158, u159, u160, u161, u162, u163, u164, u165, u166, u167, u168, u169, u170, u171, u172, u173, u174, u175, u176, u177, u178, v179, v180, v181, v182, v183, v184, v185, v186, v187, v188, v189, v190, v191, v192, v193, v194, v195, v196, v197, v198, v199, v200, v201, .bool false, u203], []⟩ (w.drewN nq)) :
    Code.wp Try.prog reg32 K ⟨#[u0, u1, u2, u3, u4, u5, u6, u7, u8, u9, u10, .slice (some ⟨g, 0, none⟩) t.L.length ca, u12, u13, u14, u15, u16, .int .i64 a, .int .i64 b, u19, u20, u21, u22, u23, u24, u25, u26, u27, u28, u29, u30, u31, u32, u33, u34, u35, u36, u37, u38, u39, u40, u41, u42, u43, u44, u45, u46, u47, u48, u49, u50, u51, u52, u53, u54, u55, u56, u57, u58, u59, u60, u61, u62, u63, u64, u65, u66, u67, u68, u69, u70, u71, u72, u73, u74, u75, u76, u77, u78, u79, u80, u81, u82, u83, u84, u85, u86, u87, u88, u89, u90, u91, u92, u93, u94, u95, u96, u97, u98, u99, u100, u101, u102, u103, u104, u105, u106, u107, u108, u109, u110, u111, u112, u113, u114, u115, u116, u117, u118, u119, u120, u121, u122, u123, u124, u125, u126, u127, u128, u129, u130, u131, u132, u133, u134, u135, u136, u137, u138, u139, u140, u141, u142, u143, u144, u145, u146, u147, u148, u149, u150, u151, u152, u153, u154, u155, u156, u157, u158, u159, u160, u161, u162, u163, u164, u165, u166, u167, u168, u169, u170, u171, u172, u173, u174, u175, u176, u177, u178, u179, u180, u181, u182, u183, u184, u185, u186, u187, u188, u189, u190, u191, u192, u193, u194, u195, u196, u197, u198, u199, u200, u201, u202, u203], []⟩ w := by
  have hb2 : b < t.L.length := by omega
  have x0 := own_cell o (j := a * 4) (u := .int .i64 t.L[a].s) (by rw [show a * 4 = a * 4 + 0 by omega, es_at ha (by omega)]; rfl)
  have x1 := own_cell o (j := a * 4 + 1) (u := .int .i64 t.L[a].p) (by rw [es_at ha (by omega)]; rfl)
  have y0 := own_cell o (j := b * 4) (u := .int .i64 t.L[b].s) (by rw [show b * 4 = b * 4 + 0 by omega, es_at hb2 (by omega)]; rfl)
  have y1 := own_cell o (j := b * 4 + 1) (u := .int .i64 t.L[b].p) (by rw [es_at hb2 (by omega)]; rfl)
  have HD := Lib.hid (hd.at_ ha hb)
  have j1 : (0 : Int) ≤ a := by omega
  have j2 : (a : Int) < t.L.length := by omega
  have j3 : (0 : Int) ≤ b := by omega
  have j4 : (b : Int) < t.L.length := by omega
  clear o hd
  generalize t.L[a] = ea at *
  generalize t.L[b] = eb at *
  generalize t.L.length = n at *
  conv => arg 2; whnf
  dsimp only at hK ⊢
  cases e1 : (ea.s == eb.s) with
  | false =>
    clear HD
    go_quiet (fail)
    exact hK _ _ _ _ _ _ _ _ _ _ _ _ _ _ _ _ _ _ _ _ _ _ _ nq
  | true =>
    have e2 : (ea.p == eb.p) = false := by have := HD.out; rw [e1] at this; simpa using this
    clear HD
    go_quiet (fail)
    exact hK _ _ _ _ _ _ _ _ _ _ _ _ _ _ _ _ _ _ _ _ _ _ _ nq

noncomputable def reg24 : Code := ((Try.f5.body.bind (theRegion 24)).getD .skip)
set_option maxRecDepth 1000000 in
set_option maxHeartbeats 3200000 in
theorem reg24_any (w : World) (Ab Aa : Option Addr) (n cb tn ca G : Nat) (R q : Int) (K : Exit → Act → World → Prop) (hn : n ≤ 1000) (hG : G ≤ n)
    (h1 : 4 < q → R = G) (h2 : q ≠ 3 → q ≠ 4 → tn + G = n)
    (u0 u1 u2 u3 u4 u5 u6 u7 u10 u14 u15 u16 u17 u18 u19 u20 u21 u22 u23 u24 u25 u26 u27 u28 u29 u30 u31 u32 u33 u34 u35 u36 u37 u38 u39 u40 u41 u42 u43 u44 u45 u46 u47 u48 u49 u50 u51 u52 u53 u54 u55 u56 u57 u58 u59 u60 u61 u62 u63 u64 u65 u66 u67 u68 u69 u70 u71 u72 u73 u74 u75 u76 u77 u78 u79 u80 u81 u82 u83 u84 u85 u86 u87 u88 u89 u90 u91 u92 u93 u94 u95 u96 u97 u98 u99 u100 u101 u102 u103 u104 u105 u106 u107 u108 u109 u110 u111 u112 u113 u114 u115 u116 u117 u118 u119 u120 u121 u122 u123 u124 u125 u126 u127 u128 u129 u130 u131 u132 u133 u134 u135 u136 u137 u138 u139 u140 u141 u142 u143 u144 u145 u146 u147 u148 u149 u150 u151 u152 u153 u154 u155 u156 u157 u158 u159 u160 u161 u162 u163 u164 u165 u166 u167 u168 u169 u170 u171 u172 u173 u174 u175 u176 u177 u178 u179 u180 u181 u182 u183 u184 u185 u186 u187 u188 u189 u190 u191 u192 u193 u194 u195 u196 u197 u198 u199 u200 u201 u202 u203 : Value)
    (hK : ∀ (v144 v145 v146 v147 v148 v149 v150 v151 v152 v153 v154 v155 v156 v157 v158 v159 v160 v161 v162 v163 v164 v165 v166 : Value), K .normal ⟨#[u0, u1, u2, u3, u4, u5, u6, u7, .slice Ab n cb, .int .i64 R, u10, .slice Aa tn ca, .int .i64 q, .int .i64 G, u14, u15, u16, u17, u18, u19, u20, u21, u22, u23, u24, u25, u26, u27, u28, u29, u30, u31, u32, u33, u34, u35, u36, u37, u38, u39, u40, u41, u42, u43, u44, u45, u46, u47, u48, u49, u50, u51, u52, u53, u54, u55, u56, u57, u58, u59, u60, u61, u62, u63, u64, u65, u66, u67, u68, u69, u70, u71, u72, u73, u74, u75, u76, u77, u78, u79, u80, u81, u82, u83, u84, u85, u86, u87, u88, u89, u90, u91, u92, u93, u94, u95, u96, u97, u98, u99, u100, u101, u102, u103, u104, u105, u106, u107, u108, u109, u110, u111, u112, u113, u114, u115, u116, u117, u118, u119, u120, u121, u122, u123, u124, u125, u126, u127, u128, u129, u130, u131, u132, u133, u134, u135, u136, u137, u138, u139, u140, u141, u142, u143, v144, v145, v146, v147, v148, v149, v150, v151, v152, v153, v154, v155, v156, v157, v158, v159, v160, v161, v162, v163, v164, v165, v166, .bool false, u168, u169, u170, u171, u172, u173, u174, u175, u176, u177, u178, u179, u180, u181, u182, u183, u184, u185, u186, u187, u188, u189, u190, u191, u192, u193, u194, u195, u196, u197, u198, u199, u200, u201, u202, u203], []⟩ w) :
    Code.wp Try.prog reg24 K ⟨#[u0, u1, u2, u3, u4, u5, u6, u7, .slice Ab n cb, .int .i64 R, u10, .slice Aa tn ca, .int .i64 q, .int .i64 G, u14, u15, u16, u17, u18, u19, u20, u21, u22, u23, u24, u25, u26, u27, u28, u29, u30, u31, u32, u33, u34, u35, u36, u37, u38, u39, u40, u41, u42, u43, u44, u45, u46, u47, u48, u49, u50, u51, u52, u53, u54, u55, u56, u57, u58, u59, u60, u61, u62, u63, u64, u65, u66, u67, u68, u69, u70, u71, u72, u73, u74, u75, u76, u77, u78, u79, u80, u81, u82, u83, u84, u85, u86, u87, u88, u89, u90, u91, u92, u93, u94, u95, u96, u97, u98, u99, u100, u101, u102, u103, u104, u105, u106, u107, u108, u109, u110, u111, u112, u113, u114, u115, u116, u117, u118, u119, u120, u121, u122, u123, u124, u125, u126, u127, u128, u129, u130, u131, u132, u133, u134, u135, u136, u137, u138, u139, u140, u141, u142, u143, u144, u145, u146, u147, u148, u149, u150, u151, u152, u153, u154, u155, u156, u157, u158, u159, u160, u161, u162, u163, u164, u165, u166, u167, u168, u169, u170, u171, u172, u173, u174, u175, u176, u177, u178, u179, u180, u181, u182, u183, u184, u185, u186, u187, u188, u189, u190, u191, u192, u193, u194, u195, u196, u197, u198, u199, u200, u201, u202, u203], []⟩ w := by
  have H1 := Lib.hid h1
  have H2 := Lib.hid h2
  clear h1 h2
  conv => arg 2; whnf
  dsimp only at hK ⊢
  by_cases q4 : 4 < q
  · have e5 : decide (4 < q) = true := by simp [q4]
    have e3 : (q != 3) = true := by simp; omega
    have e4 : (q != 4) = true := by simp; omega
    have hr := H1.out q4
    have hl := H2.out (by omega) (by omega)
    have x1 : (R != (G : Int)) = false := by simp; omega
    have x2 : ((tn : Int) != (n : Int) - (G : Int)) = false := by simp; omega
    clear H1 H2 hr hl
    go_wp2_with fail
    exact hK _ _ _ _ _ _ _ _ _ _ _ _ _ _ _ _ _ _ _ _ _ _ _
  have e5 : decide (4 < q) = false := by simp; omega
  clear H1
  by_cases q3 : q = 3
  · have e3 : (q != 3) = false := by simp [q3]
    clear H2 q3
    go_wp2_with fail
    exact hK _ _ _ _ _ _ _ _ _ _ _ _ _ _ _ _ _ _ _ _ _ _ _
  have e3 : (q != 3) = true := by simp [q3]
  by_cases q4' : q = 4
  · have e4 : (q != 4) = false := by simp [q4']
    clear H2 q4'
    go_wp2_with fail
    exact hK _ _ _ _ _ _ _ _ _ _ _ _ _ _ _ _ _ _ _ _ _ _ _
  have e4 : (q != 4) = true := by simp [q4']
  have hl := H2.out (by omega) (by omega)
  have x2 : ((tn : Int) != (n : Int) - (G : Int)) = false := by simp; omega
  clear H2 hl
  go_wp2_with fail
  exact hK _ _ _ _ _ _ _ _ _ _ _ _ _ _ _ _ _ _ _ _ _ _ _

noncomputable def reg22 : Code := ((Try.f5.body.bind (theRegion 22)).getD .skip)
set_option maxRecDepth 1000000 in
set_option maxHeartbeats 3200000 in
theorem reg22_any (w : World) (Aa : Option Addr) (ca xb : Nat) (L : List En) (e : En) (hit : Bool) (q : Int) (K : Exit → Act → World → Prop) (hn : L.length ≤ 1000000)
    (o : w.ownsRow 0 34 4 (.slice Aa L.length ca) L.length (es L)) (B : Blk w xb 34 #[.int .i64 e.s, .int .i64 e.p, .int .i64 e.f, .bool e.w])
    (h2 : q ≠ 3 → q ≠ 4 → decide (e ∈ L) = !hit)
    (u0 u1 u2 u3 u4 u5 u6 u7 u8 u9 u10 u13 u14 u17 u18 u19 u20 u21 u22 u23 u24 u25 u26 u27 u28 u29 u30 u31 u32 u33 u34 u35 u36 u37 u38 u39 u40 u41 u42 u43 u44 u45 u46 u47 u48 u49 u50 u51 u52 u53 u54 u55 u56 u57 u58 u59 u60 u61 u62 u63 u64 u65 u66 u67 u68 u69 u70 u71 u72 u73 u74 u75 u76 u77 u78 u79 u80 u81 u82 u83 u84 u85 u86 u87 u88 u89 u90 u91 u92 u93 u94 u95 u96 u97 u98 u99 u100 u101 u102 u103 u104 u105 u106 u107 u108 u109 u110 u111 u112 u113 u114 u115 u116 u117 u118 u119 u120 u121 u122 u123 u124 u125 u126 u127 u128 u129 u130 u131 u132 u133 u134 u135 u136 u137 u138 u139 u140 u141 u142 u143 u144 u145 u146 u147 u148 u149 u150 u151 u152 u153 u154 u155 u156 u157 u158 u159 u160 u161 u162 u163 u164 u165 u166 u167 u168 u169 u170 u171 u172 u173 u174 u175 u176 u177 u178 u179 u180 u181 u182 u183 u184 u185 u186 u187 u188 u189 u190 u191 u192 u193 u194 u195 u196 u197 u198 u199 u200 u201 u202 u203 : Value)
    (hK : ∀ (v131 v132 v133 v134 v135 v136 v137 v138 v139 v140 v141 v142 : Value) (w' : World), Keeps [] w w' → K .normal ⟨#[u0, u1, u2, u3, u4, u5, u6, u7, u8, u9, u10, .slice Aa L.length ca, .int .i64 q, u13, u14, .pointer (some ⟨xb, 0, none⟩), .bool hit, u17, u18, u19, u20, u21, u22, u23, u24, u25, u26, u27, u28, u29, u30, u31, u32, u33, u34, u35, u36, u37, u38, u39, u40, u41, u42, u43, u44, u45, u46, u47, u48, u49, u50, u51, u52, u53, u54, u55, u56, u57, u58, u59, u60, u61, u62, u63, u64, u65, u66, u67, u68, u69, u70, u71, u72, u73, u74, u75, u76, u77, u78, u79, u80, u81, u82, u83, u84, u85, u86, u87, u88, u89, u90, u91, u92, u93, u94, u95, u96, u97, u98, u99, u100, u101, u102, u103, u104, u105, u106, u107, u108, u109, u110, u111, u112, u113, u114, u115, u116, u117, u118, u119, u120, u121, u122, u123, u124, u125, u126, u127, u128, u129, u130, v131, v132, v133, v134, v135, v136, v137, v138, v139, v140, v141, v142, .bool false, u144, u145, u146, u147, u148, u149, u150, u151, u152, u153, u154, u155, u156, u157, u158, u159, u160, u161, u162, u163, u164, u165, u166, u167, u168, u169, u170, u171, u172, u173, u174, u175, u176, u177, u178, u179, u180, u181, u182, u183, u184, u185, u186, u187, u188, u189, u190, u191, u192, u193, u194, u195, u196, u197, u198, u199, u200, u201, u202, u203], []⟩ w') :
    Code.wp Try.prog reg22 K ⟨#[u0, u1, u2, u3, u4, u5, u6, u7, u8, u9, u10, .slice Aa L.length ca, .int .i64 q, u13, u14, .pointer (some ⟨xb, 0, none⟩), .bool hit, u17, u18, u19, u20, u21, u22, u23, u24, u25, u26, u27, u28, u29, u30, u31, u32, u33, u34, u35, u36, u37, u38, u39, u40, u41, u42, u43, u44, u45, u46, u47, u48, u49, u50, u51, u52, u53, u54, u55, u56, u57, u58, u59, u60, u61, u62, u63, u64, u65, u66, u67, u68, u69, u70, u71, u72, u73, u74, u75, u76, u77, u78, u79, u80, u81, u82, u83, u84, u85, u86, u87, u88, u89, u90, u91, u92, u93, u94, u95, u96, u97, u98, u99, u100, u101, u102, u103, u104, u105, u106, u107, u108, u109, u110, u111, u112, u113, u114, u115, u116, u117, u118, u119, u120, u121, u122, u123, u124, u125, u126, u127, u128, u129, u130, u131, u132, u133, u134, u135, u136, u137, u138, u139, u140, u141, u142, u143, u144, u145, u146, u147, u148, u149, u150, u151, u152, u153, u154, u155, u156, u157, u158, u159, u160, u161, u162, u163, u164, u165, u166, u167, u168, u169, u170, u171, u172, u173, u174, u175, u176, u177, u178, u179, u180, u181, u182, u183, u184, u185, u186, u187, u188, u189, u190, u191, u192, u193, u194, u195, u196, u197, u198, u199, u200, u201, u202, u203], []⟩ w := by
  have H2 := Lib.hid h2
  have c0 := B.cell 0
  have c1 := B.cell 1
  have c2 := B.cell 2
  have c3 := B.cell 3
  have HC := Lib.hid (has_any w _ L e hn o)
  clear h2 o B
  conv => arg 2; whnf
  dsimp only at hK ⊢
  by_cases q3 : q = 3
  · have e3 : (q != 3) = false := by simp [q3]
    clear H2 q3
    go_wp2_with fail
    exact Keeps.refl _ _
  have e3 : (q != 3) = true := by simp [q3]
  by_cases q4' : q = 4
  · have e4 : (q != 4) = false := by simp [q4']
    clear H2 q4'
    go_wp2_with fail
    exact Keeps.refl _ _
  have e4 : (q != 4) = true := by simp [q4']
  have hl := H2.out q3 q4'
  rw [hl] at HC
  have x1 : ((!hit) == hit) = false := by cases hit <;> rfl
  clear H2 hl
  go_wp2_with fail
  refine HC.out.mono ?_
  rintro e w1 ⟨rfl, k1⟩
  go_wp2_with fail
  exact k1
end Go.Proofs.Ytkfcoemdpcjhfaa
