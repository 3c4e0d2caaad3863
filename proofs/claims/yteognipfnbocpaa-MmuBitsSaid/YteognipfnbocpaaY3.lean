/- The drawn regions of MmuBits. -/
import Derived.Test.YteognipfnbocpaaY1
import Derived.StillTailTactics
import Derived.Deep.QuietTactic
import Derived.BigQuiet
namespace Go.Proofs.Yteognipfnbocpaa
open Go.RowKit

def theRegion (k : Nat) : Code → Option Code
  | .region id ops d => if id == k then some (.region id ops d) else none
  | .seq a b => match theRegion k a with
    | some c => some c
    | none => theRegion k b
  | .cond _ a b => match theRegion k a with
    | some c => some c
    | none => theRegion k b
  | .block _ c => theRegion k c
  | .loop c => theRegion k c
  | .scope c => theRegion k c
  | _ => none
noncomputable def reg19 : Code := ((Try.f3.body.bind (theRegion 19)).getD .skip)
set_option maxRecDepth 1000000 in
set_option maxHeartbeats 3200000 in
theorem reg19_any (w : World) (a b e fr : Int) (q g xb : Nat) (wr : Bool) (f : Nat → Bool) (K : Exit → Act → World → Prop) (hq : q < 256)
    (T : Tab w g f) (B : Blk w xb 28 #[.int .i64 a, .int .i64 b, .int .i64 e, .int .i64 q, .int .i64 fr, .bool wr])
    (u0 u1 u2 u3 u4 u5 u6 u7 u9 u11 u12 u13 u14 u15 u16 u17 u18 u19 u20 u21 u22 u23 u24 u25 u26 u27 u28 u29 u30 u31 u32 u33 u34 u35 u36 u37 u38 u39 u40 u41 u42 u43 u44 u45 u46 u47 u48 u49 u50 u51 u52 u53 u54 u55 u56 u57 u58 u59 u60 u61 u62 u63 u64 u65 u66 u67 u68 u69 u70 u71 u72 u73 u74 u75 u76 u77 u78 u79 u80 u81 u82 u83 u84 u85 u86 u87 u88 u89 u90 u91 u92 u93 u94 u95 u96 u97 u98 u99 u100 u101 u102 u103 u104 u105 u106 u107 u108 u109 u110 u111 u112 u113 u114 u115 u116 u117 u118 u119 u120 u121 u122 u123 u124 u125 u126 u127 u128 u129 u130 u131 u132 u133 u134 u135 u136 u137 u138 u139 u140 u141 u142 u143 u144 u145 u146 u147 u148 u149 u150 u151 u152 u153 u154 u155 u156 u157 u158 u159 u160 u161 u162 u163 u164 u165 u166 u167 u168 u169 u170 u171 u172 u173 u174 u175 u176 u177 u178 u179 u180 u181 u182 u183 u184 u185 u186 u187 u188 : Value)
    (hK : ∀ (v73 v74 v75 v76 v77 v78 v79 v80 v81 v82 v83 v84 v85 : Value), K .normal ⟨#[u0, u1, u2, u3, u4, u5, u6, u7, .slice (some ⟨g, 0, none⟩) 256 256, u9, .pointer (some ⟨xb, 0, none⟩), u11, u12, u13, u14, u15, u16, u17, u18, u19, u20, u21, u22, u23, u24, u25, u26, u27, u28, u29, u30, u31, u32, u33, u34, u35, u36, u37, u38, u39, u40, u41, u42, u43, u44, u45, u46, u47, u48, u49, u50, u51, u52, u53, u54, u55, u56, u57, u58, u59, u60, u61, u62, u63, u64, u65, u66, u67, u68, u69, u70, u71, u72, v73, v74, v75, v76, v77, v78, v79, v80, v81, v82, v83, v84, v85, u86, u87, u88, u89, u90, u91, u92, u93, u94, u95, u96, u97, u98, u99, u100, u101, u102, u103, u104, u105, u106, u107, u108, u109, u110, u111, u112, u113, u114, u115, u116, u117, u118, u119, u120, u121, u122, u123, u124, u125, u126, u127, u128, u129, u130, u131, u132, u133, u134, u135, u136, u137, u138, u139, u140, u141, u142, u143, u144, u145, u146, u147, u148, u149, u150, u151, u152, u153, u154, u155, u156, u157, u158, u159, u160, u161, u162, u163, u164, u165, u166, u167, u168, u169, u170, u171, u172, u173, u174, u175, u176, u177, u178, u179, u180, u181, u182, u183, u184, u185, u186, u187, u188], []⟩ (w.drew.setCell ⟨g, q, none⟩ (.bool (f q || wr)))) :
    Code.wp Try.prog reg19 K ⟨#[u0, u1, u2, u3, u4, u5, u6, u7, .slice (some ⟨g, 0, none⟩) 256 256, u9, .pointer (some ⟨xb, 0, none⟩), u11, u12, u13, u14, u15, u16, u17, u18, u19, u20, u21, u22, u23, u24, u25, u26, u27, u28, u29, u30, u31, u32, u33, u34, u35, u36, u37, u38, u39, u40, u41, u42, u43, u44, u45, u46, u47, u48, u49, u50, u51, u52, u53, u54, u55, u56, u57, u58, u59, u60, u61, u62, u63, u64, u65, u66, u67, u68, u69, u70, u71, u72, u73, u74, u75, u76, u77, u78, u79, u80, u81, u82, u83, u84, u85, u86, u87, u88, u89, u90, u91, u92, u93, u94, u95, u96, u97, u98, u99, u100, u101, u102, u103, u104, u105, u106, u107, u108, u109, u110, u111, u112, u113, u114, u115, u116, u117, u118, u119, u120, u121, u122, u123, u124, u125, u126, u127, u128, u129, u130, u131, u132, u133, u134, u135, u136, u137, u138, u139, u140, u141, u142, u143, u144, u145, u146, u147, u148, u149, u150, u151, u152, u153, u154, u155, u156, u157, u158, u159, u160, u161, u162, u163, u164, u165, u166, u167, u168, u169, u170, u171, u172, u173, u174, u175, u176, u177, u178, u179, u180, u181, u182, u183, u184, u185, u186, u187, u188], []⟩ w := by
  have x3 := B.cell 3
  have x4 := B.cell 4
  have x5 := B.cell 5
  have ta := T.cell hq
  have tf := T.frozen q
  have j1 : (0 : Int) ≤ q := by omega
  have j2 : (q : Int) < 256 := by omega
  clear T B
  conv => arg 2; whnf
  dsimp only at hK ⊢
  cases hfq : f q with
  | false =>
    rw [hfq] at ta hK
    clear hfq
    go_still_tail 13, (by kernel_rfl)
    change wpList _ _ _ _ _ w.drew
    go_wp2_with fail
    exact hK _ _ _ _ _ _ _ _ _ _ _ _ _
  | true =>
    rw [hfq] at ta hK
    clear hfq
    go_still_tail 13, (by kernel_rfl)
    change wpList _ _ _ _ _ w.drew
    go_wp2_with fail
    exact hK _ _ _ _ _ _ _ _ _ _ _ _ _

noncomputable def reg21 : Code := ((Try.f3.body.bind (theRegion 21)).getD .skip)
set_option maxRecDepth 1000000 in
set_option maxHeartbeats 3200000 in
theorem reg21_any (w : World) (a b e fr : Int) (q g xb : Nat) (wr : Bool) (f : Nat → Bool) (K : Exit → Act → World → Prop) (hq : q < 256)
    (T : Tab w g f) (B : Blk w xb 28 #[.int .i64 a, .int .i64 b, .int .i64 e, .int .i64 q, .int .i64 fr, .bool wr])
    (u0 u1 u2 u3 u4 u5 u6 u8 u9 u11 u12 u13 u14 u15 u16 u17 u18 u19 u20 u21 u22 u23 u24 u25 u26 u27 u28 u29 u30 u31 u32 u33 u34 u35 u36 u37 u38 u39 u40 u41 u42 u43 u44 u45 u46 u47 u48 u49 u50 u51 u52 u53 u54 u55 u56 u57 u58 u59 u60 u61 u62 u63 u64 u65 u66 u67 u68 u69 u70 u71 u72 u73 u74 u75 u76 u77 u78 u79 u80 u81 u82 u83 u84 u85 u86 u87 u88 u89 u90 u91 u92 u93 u94 u95 u96 u97 u98 u99 u100 u101 u102 u103 u104 u105 u106 u107 u108 u109 u110 u111 u112 u113 u114 u115 u116 u117 u118 u119 u120 u121 u122 u123 u124 u125 u126 u127 u128 u129 u130 u131 u132 u133 u134 u135 u136 u137 u138 u139 u140 u141 u142 u143 u144 u145 u146 u147 u148 u149 u150 u151 u152 u153 u154 u155 u156 u157 u158 u159 u160 u161 u162 u163 u164 u165 u166 u167 u168 u169 u170 u171 u172 u173 u174 u175 u176 u177 u178 u179 u180 u181 u182 u183 u184 u185 u186 u187 u188 : Value)
    (hK : ∀ (v92 v93 v94 v95 v96 v97 v98 v99 v100 v101 v102 v103 v104 v105 : Value), K .normal ⟨#[u0, u1, u2, u3, u4, u5, u6, .slice (some ⟨g, 0, none⟩) 256 256, u8, u9, .pointer (some ⟨xb, 0, none⟩), u11, u12, u13, u14, u15, u16, u17, u18, u19, u20, u21, u22, u23, u24, u25, u26, u27, u28, u29, u30, u31, u32, u33, u34, u35, u36, u37, u38, u39, u40, u41, u42, u43, u44, u45, u46, u47, u48, u49, u50, u51, u52, u53, u54, u55, u56, u57, u58, u59, u60, u61, u62, u63, u64, u65, u66, u67, u68, u69, u70, u71, u72, u73, u74, u75, u76, u77, u78, u79, u80, u81, u82, u83, u84, u85, u86, u87, u88, u89, u90, u91, v92, v93, v94, v95, v96, v97, v98, v99, v100, v101, v102, v103, v104, v105, u106, u107, u108, u109, u110, u111, u112, u113, u114, u115, u116, u117, u118, u119, u120, u121, u122, u123, u124, u125, u126, u127, u128, u129, u130, u131, u132, u133, u134, u135, u136, u137, u138, u139, u140, u141, u142, u143, u144, u145, u146, u147, u148, u149, u150, u151, u152, u153, u154, u155, u156, u157, u158, u159, u160, u161, u162, u163, u164, u165, u166, u167, u168, u169, u170, u171, u172, u173, u174, u175, u176, u177, u178, u179, u180, u181, u182, u183, u184, u185, u186, u187, u188], []⟩ (w.drew.setCell ⟨g, q, none⟩ (.bool (f q && decide (fr < 0))))) :
    Code.wp Try.prog reg21 K ⟨#[u0, u1, u2, u3, u4, u5, u6, .slice (some ⟨g, 0, none⟩) 256 256, u8, u9, .pointer (some ⟨xb, 0, none⟩), u11, u12, u13, u14, u15, u16, u17, u18, u19, u20, u21, u22, u23, u24, u25, u26, u27, u28, u29, u30, u31, u32, u33, u34, u35, u36, u37, u38, u39, u40, u41, u42, u43, u44, u45, u46, u47, u48, u49, u50, u51, u52, u53, u54, u55, u56, u57, u58, u59, u60, u61, u62, u63, u64, u65, u66, u67, u68, u69, u70, u71, u72, u73, u74, u75, u76, u77, u78, u79, u80, u81, u82, u83, u84, u85, u86, u87, u88, u89, u90, u91, u92, u93, u94, u95, u96, u97, u98, u99, u100, u101, u102, u103, u104, u105, u106, u107, u108, u109, u110, u111, u112, u113, u114, u115, u116, u117, u118, u119, u120, u121, u122, u123, u124, u125, u126, u127, u128, u129, u130, u131, u132, u133, u134, u135, u136, u137, u138, u139, u140, u141, u142, u143, u144, u145, u146, u147, u148, u149, u150, u151, u152, u153, u154, u155, u156, u157, u158, u159, u160, u161, u162, u163, u164, u165, u166, u167, u168, u169, u170, u171, u172, u173, u174, u175, u176, u177, u178, u179, u180, u181, u182, u183, u184, u185, u186, u187, u188], []⟩ w := by
  have x3 := B.cell 3
  have x4 := B.cell 4
  have x5 := B.cell 5
  have ta := T.cell hq
  have tf := T.frozen q
  have j1 : (0 : Int) ≤ q := by omega
  have j2 : (q : Int) < 256 := by omega
  clear T B
  conv => arg 2; whnf
  dsimp only at hK ⊢
  cases hfq : f q with
  | false =>
    rw [hfq] at ta hK
    clear hfq
    go_still_tail 14, (by kernel_rfl)
    change wpList _ _ _ _ _ w.drew
    go_wp2_with fail
    exact hK _ _ _ _ _ _ _ _ _ _ _ _ _ _
  | true =>
    rw [hfq] at ta hK
    clear hfq
    by_cases hneg : fr < 0
    · have e0 : decide (fr < 0) = true := by simpa using hneg
      rw [e0] at hK
      go_still_tail 14, (by kernel_rfl)
      change wpList _ _ _ _ _ w.drew
      go_wp2_with fail
      exact hK _ _ _ _ _ _ _ _ _ _ _ _ _ _
    · have e0 : decide (fr < 0) = false := by simpa using hneg
      rw [e0] at hK
      go_still_tail 14, (by kernel_rfl)
      change wpList _ _ _ _ _ w.drew
      go_wp2_with fail
      exact hK _ _ _ _ _ _ _ _ _ _ _ _ _ _

noncomputable def reg22 : Code := ((Try.f3.body.bind (theRegion 22)).getD .skip)
set_option maxRecDepth 1000000 in
set_option maxHeartbeats 3200000 in
theorem reg22_any (w : World) (a b e fr : Int) (q g xb : Nat) (wr : Bool) (f : Nat → Bool) (K : Exit → Act → World → Prop) (hq : q < 256)
    (T : Tab w g f) (B : Blk w xb 28 #[.int .i64 a, .int .i64 b, .int .i64 e, .int .i64 q, .int .i64 fr, .bool wr])
    (u0 u1 u2 u3 u4 u5 u6 u7 u9 u11 u12 u13 u14 u15 u16 u17 u18 u19 u20 u21 u22 u23 u24 u25 u26 u27 u28 u29 u30 u31 u32 u33 u34 u35 u36 u37 u38 u39 u40 u41 u42 u43 u44 u45 u46 u47 u48 u49 u50 u51 u52 u53 u54 u55 u56 u57 u58 u59 u60 u61 u62 u63 u64 u65 u66 u67 u68 u69 u70 u71 u72 u73 u74 u75 u76 u77 u78 u79 u80 u81 u82 u83 u84 u85 u86 u87 u88 u89 u90 u91 u92 u93 u94 u95 u96 u97 u98 u99 u100 u101 u102 u103 u104 u105 u106 u107 u108 u109 u110 u111 u112 u113 u114 u115 u116 u117 u118 u119 u120 u121 u122 u123 u124 u125 u126 u127 u128 u129 u130 u131 u132 u133 u134 u135 u136 u137 u138 u139 u140 u141 u142 u143 u144 u145 u146 u147 u148 u149 u150 u151 u152 u153 u154 u155 u156 u157 u158 u159 u160 u161 u162 u163 u164 u165 u166 u167 u168 u169 u170 u171 u172 u173 u174 u175 u176 u177 u178 u179 u180 u181 u182 u183 u184 u185 u186 u187 u188 : Value)
    (hK : ∀ (v106 v107 v108 v109 v110 v111 v112 v113 v114 v115 v116 v117 v118 v119 : Value), K .normal ⟨#[u0, u1, u2, u3, u4, u5, u6, u7, .slice (some ⟨g, 0, none⟩) 256 256, u9, .pointer (some ⟨xb, 0, none⟩), u11, u12, u13, u14, u15, u16, u17, u18, u19, u20, u21, u22, u23, u24, u25, u26, u27, u28, u29, u30, u31, u32, u33, u34, u35, u36, u37, u38, u39, u40, u41, u42, u43, u44, u45, u46, u47, u48, u49, u50, u51, u52, u53, u54, u55, u56, u57, u58, u59, u60, u61, u62, u63, u64, u65, u66, u67, u68, u69, u70, u71, u72, u73, u74, u75, u76, u77, u78, u79, u80, u81, u82, u83, u84, u85, u86, u87, u88, u89, u90, u91, u92, u93, u94, u95, u96, u97, u98, u99, u100, u101, u102, u103, u104, u105, v106, v107, v108, v109, v110, v111, v112, v113, v114, v115, v116, v117, v118, v119, u120, u121, u122, u123, u124, u125, u126, u127, u128, u129, u130, u131, u132, u133, u134, u135, u136, u137, u138, u139, u140, u141, u142, u143, u144, u145, u146, u147, u148, u149, u150, u151, u152, u153, u154, u155, u156, u157, u158, u159, u160, u161, u162, u163, u164, u165, u166, u167, u168, u169, u170, u171, u172, u173, u174, u175, u176, u177, u178, u179, u180, u181, u182, u183, u184, u185, u186, u187, u188], []⟩ (w.drew.setCell ⟨g, q, none⟩ (.bool (f q && decide (fr < 0))))) :
    Code.wp Try.prog reg22 K ⟨#[u0, u1, u2, u3, u4, u5, u6, u7, .slice (some ⟨g, 0, none⟩) 256 256, u9, .pointer (some ⟨xb, 0, none⟩), u11, u12, u13, u14, u15, u16, u17, u18, u19, u20, u21, u22, u23, u24, u25, u26, u27, u28, u29, u30, u31, u32, u33, u34, u35, u36, u37, u38, u39, u40, u41, u42, u43, u44, u45, u46, u47, u48, u49, u50, u51, u52, u53, u54, u55, u56, u57, u58, u59, u60, u61, u62, u63, u64, u65, u66, u67, u68, u69, u70, u71, u72, u73, u74, u75, u76, u77, u78, u79, u80, u81, u82, u83, u84, u85, u86, u87, u88, u89, u90, u91, u92, u93, u94, u95, u96, u97, u98, u99, u100, u101, u102, u103, u104, u105, u106, u107, u108, u109, u110, u111, u112, u113, u114, u115, u116, u117, u118, u119, u120, u121, u122, u123, u124, u125, u126, u127, u128, u129, u130, u131, u132, u133, u134, u135, u136, u137, u138, u139, u140, u141, u142, u143, u144, u145, u146, u147, u148, u149, u150, u151, u152, u153, u154, u155, u156, u157, u158, u159, u160, u161, u162, u163, u164, u165, u166, u167, u168, u169, u170, u171, u172, u173, u174, u175, u176, u177, u178, u179, u180, u181, u182, u183, u184, u185, u186, u187, u188], []⟩ w := by
  have x3 := B.cell 3
  have x4 := B.cell 4
  have x5 := B.cell 5
  have ta := T.cell hq
  have tf := T.frozen q
  have j1 : (0 : Int) ≤ q := by omega
  have j2 : (q : Int) < 256 := by omega
  clear T B
  conv => arg 2; whnf
  dsimp only at hK ⊢
  cases hfq : f q with
  | false =>
    rw [hfq] at ta hK
    clear hfq
    go_still_tail 14, (by kernel_rfl)
    change wpList _ _ _ _ _ w.drew
    go_wp2_with fail
    exact hK _ _ _ _ _ _ _ _ _ _ _ _ _ _
  | true =>
    rw [hfq] at ta hK
    clear hfq
    by_cases hneg : fr < 0
    · have e0 : decide (fr < 0) = true := by simpa using hneg
      rw [e0] at hK
      go_still_tail 14, (by kernel_rfl)
      change wpList _ _ _ _ _ w.drew
      go_wp2_with fail
      exact hK _ _ _ _ _ _ _ _ _ _ _ _ _ _
    · have e0 : decide (fr < 0) = false := by simpa using hneg
      rw [e0] at hK
      go_still_tail 14, (by kernel_rfl)
      change wpList _ _ _ _ _ w.drew
      go_wp2_with fail
      exact hK _ _ _ _ _ _ _ _ _ _ _ _ _ _

noncomputable def reg33 : Code := ((Try.f3.body.bind (theRegion 33)).getD .skip)
set_option maxRecDepth 1000000 in
set_option maxHeartbeats 3200000 in
theorem reg33_any (w : World) (q ga gd xb : Nat) (x y z : Value) (f d : Nat → Bool) (K : Exit → Act → World → Prop) (hq : q < 256)
    (T : Tab w ga f) (D : Tab w gd d) (B : Blk w xb 34 #[x, y, z, .bool (f q), .bool (d q)])
    (u0 u1 u2 u3 u4 u5 u6 u9 u10 u11 u12 u13 u14 u15 u18 u19 u20 u21 u22 u23 u24 u25 u26 u27 u28 u29 u30 u31 u32 u33 u34 u35 u36 u37 u38 u39 u40 u41 u42 u43 u44 u45 u46 u47 u48 u49 u50 u51 u52 u53 u54 u55 u56 u57 u58 u59 u60 u61 u62 u63 u64 u65 u66 u67 u68 u69 u70 u71 u72 u73 u74 u75 u76 u77 u78 u79 u80 u81 u82 u83 u84 u85 u86 u87 u88 u89 u90 u91 u92 u93 u94 u95 u96 u97 u98 u99 u100 u101 u102 u103 u104 u105 u106 u107 u108 u109 u110 u111 u112 u113 u114 u115 u116 u117 u118 u119 u120 u121 u122 u123 u124 u125 u126 u127 u128 u129 u130 u131 u132 u133 u134 u135 u136 u137 u138 u139 u140 u141 u142 u143 u144 u145 u146 u147 u148 u149 u150 u151 u152 u153 u154 u155 u156 u157 u158 u159 u160 u161 u162 u163 u164 u165 u166 u167 u168 u169 u170 u171 u172 u173 u174 u175 u176 u177 u178 u179 u180 u181 u182 u183 u184 u185 u186 u187 u188 : Value)
    (hK : ∀ (v168 v169 v170 v171 v172 v173 v174 v175 v176 v177 v178 v179 v180 v181 v182 : Value) (nq : Nat), K .normal ⟨#[u0, u1, u2, u3, u4, u5, u6, .slice (some ⟨ga, 0, none⟩) 256 256, .slice (some ⟨gd, 0, none⟩) 256 256, u9, u10, u11, u12, u13, u14, u15, .int .i64 q, .pointer (some ⟨xb, 0, none⟩), u18, u19, u20, u21, u22, u23, u24, u25, u26, u27, u28, u29, u30, u31, u32, u33, u34, u35, u36, u37, u38, u39, u40, u41, u42, u43, u44, u45, u46, u47, u48, u49, u50, u51, u52, u53, u54, u55, u56, u57, u58, u59, u60, u61, u62, u63, u64, u65, u66, u67, u68, u69, u70, u71, u72, u73, u74, u75, u76, u77, u78, u79, u80, u81, u82, u83, u84, u85, u86, u87, u88, u89, u90, u91, u92, u93, u94, u95, u96, u97, u98, u99, u100, u101, u102, u103, u104, u105, u106, u107, u108, u109, u110, u111, u112, u113, u114, u115, u116, u117, u118, u119, u120, u121, u122, u123, u124, u125, u126, u127, u128, u129, u130, u131, u132, u133, u134, u135, u136, u137, u138, u139, u140, u141, u142, u143, u144, u145, u146, u147, u148, u149, u150, u151, u152, u153, u154, u155, u156, u157, u158, u159, u160, u161, u162, u163, u164, u165, u166, u167, v168, v169, v170, v171, v172, v173, v174, v175, v176, v177, v178, v179, v180, v181, v182, .bool false, u184, u185, u186, u187, u188], []⟩ (w.drewN nq)) :
    Code.wp Try.prog reg33 K ⟨#[u0, u1, u2, u3, u4, u5, u6, .slice (some ⟨ga, 0, none⟩) 256 256, .slice (some ⟨gd, 0, none⟩) 256 256, u9, u10, u11, u12, u13, u14, u15, .int .i64 q, .pointer (some ⟨xb, 0, none⟩), u18, u19, u20, u21, u22, u23, u24, u25, u26, u27, u28, u29, u30, u31, u32, u33, u34, u35, u36, u37, u38, u39, u40, u41, u42, u43, u44, u45, u46, u47, u48, u49, u50, u51, u52, u53, u54, u55, u56, u57, u58, u59, u60, u61, u62, u63, u64, u65, u66, u67, u68, u69, u70, u71, u72, u73, u74, u75, u76, u77, u78, u79, u80, u81, u82, u83, u84, u85, u86, u87, u88, u89, u90, u91, u92, u93, u94, u95, u96, u97, u98, u99, u100, u101, u102, u103, u104, u105, u106, u107, u108, u109, u110, u111, u112, u113, u114, u115, u116, u117, u118, u119, u120, u121, u122, u123, u124, u125, u126, u127, u128, u129, u130, u131, u132, u133, u134, u135, u136, u137, u138, u139, u140, u141, u142, u143, u144, u145, u146, u147, u148, u149, u150, u151, u152, u153, u154, u155, u156, u157, u158, u159, u160, u161, u162, u163, u164, u165, u166, u167, u168, u169, u170, u171, u172, u173, u174, u175, u176, u177, u178, u179, u180, u181, u182, u183, u184, u185, u186, u187, u188], []⟩ w := by
  have x3 := B.cell 3
  have x4 := B.cell 4
  have ta := T.cell hq
  have td := D.cell hq
  have j1 : (0 : Int) ≤ q := by omega
  have j2 : (q : Int) < 256 := by omega
  clear T D B
  conv => arg 2; whnf
  dsimp only at hK ⊢
  cases hfq : f q with
  | false =>
    rw [hfq] at ta x3
    cases hdq : d q with
    | false =>
      rw [hdq] at td x4
      clear hfq hdq
      go_quiet (fail)
      exact hK _ _ _ _ _ _ _ _ _ _ _ _ _ _ _ nq
    | true =>
      rw [hdq] at td x4
      clear hfq hdq
      go_quiet (fail)
      exact hK _ _ _ _ _ _ _ _ _ _ _ _ _ _ _ nq
  | true =>
    rw [hfq] at ta x3
    cases hdq : d q with
    | false =>
      rw [hdq] at td x4
      clear hfq hdq
      go_quiet (fail)
      exact hK _ _ _ _ _ _ _ _ _ _ _ _ _ _ _ nq
    | true =>
      rw [hdq] at td x4
      clear hfq hdq
      go_quiet (fail)
      exact hK _ _ _ _ _ _ _ _ _ _ _ _ _ _ _ nq
end Go.Proofs.Yteognipfnbocpaa
