/- CellsTell: its drawn statements; what the reference is asked (printed by t22gen.py). -/
import Derived.Test.YtbllmpcpfmlemaaGreatT21
import Derived.Test.YtbllmpcpfmlemaaGreatSh
namespace Go.Proofs.YtbllmpcpfmlemaaGreat
open Go.RowKit
noncomputable def tellR11C : Code := ((Tryz.f3.body.bind (theRegion 11)).getD .skip)
set_option maxRecDepth 1000000 in
set_option maxHeartbeats 12800000 in
set_option linter.unusedSimpArgs false in
theorem tellR11_any (w : World) (c d g1 o1 n d1 j n1 n2 : Nat) (B1 B2 : Option Addr) (id z : Int) (ky s s2 : Str) (q q2 : List Str) (b : Bool) (K : Exit → Act → World → Prop)
    (hS : ∀ W, Keeps [] w W → W.cell? ⟨g1, o1 + j * 9 + 1, none⟩ = some (.int .i64 id) ∧ W.cell? ⟨g1, o1 + j * 9 + 3, none⟩ = some (sv ky))
    (h13 : ∀ W, Keeps [] w W → Calls Tryz.prog 13 #[.slice B1 q.length n1, .slice B2 q.length n2] W fun e w' => e = .returned (.bool true) ∧ Keeps [] W w')
    (h14 : ∀ W, Keeps [] w W → Calls Tryz.prog 14 #[.pointer (some ⟨c, 0, none⟩), .int .i64 id] W fun e w' => e = .returned (.bool b) ∧ Keeps [] W w')
    (h15 : ∀ W, Keeps [] w W → Calls Tryz.prog 15 #[.pointer (some ⟨d, 0, none⟩), .int .i64 id] W fun e w' => e = .returned (.bool b) ∧ Keeps [] W w')
    (h16 : ∀ W, Keeps [] w W → Calls Tryz.prog 16 #[.pointer (some ⟨c, 0, none⟩), .int .i64 id, sv ky] W fun e w' => e = .returned (sv s2) ∧ Keeps [] W w')
    (h17 : ∀ W, Keeps [] w W → Calls Tryz.prog 17 #[.pointer (some ⟨d, 0, none⟩), .int .i64 id, sv ky] W fun e w' => e = .returned (sv s2) ∧ Keeps [] W w')
    (h18 : ∀ W, Keeps [] w W → Calls Tryz.prog 18 #[.pointer (some ⟨c, 0, none⟩), .int .i64 id, sv ky] W fun e w' => (∃ A d, e = .returned (.slice A q2.length d) ∧ w'.ownsRow 0 9 1 (.slice A q2.length d) q2.length (vs q2)) ∧ Keeps [] W w')
    (h19 : ∀ W, Keeps [] w W → Calls Tryz.prog 19 #[.pointer (some ⟨d, 0, none⟩), .int .i64 id, sv ky] W fun e w' => (∃ A d, e = .returned (.slice A q2.length d) ∧ w'.ownsRow 0 9 1 (.slice A q2.length d) q2.length (vs q2)) ∧ Keeps [] W w')
    (hq : q2.length ≤ 1000000) (i2 : (0 : Int) ≤ (j : Int)) (i3 : (j : Int) < (n : Int))
    (u1 u2 u3 u13 u14 u15 u16 u17 u18 u19 u20 u21 u22 u23 u24 u25 u26 u27 u28 u29 u30 u31 u32 u33 u34 u35 u36 u37 u38 u39 u40 u41 u42 u43 u44 u45 u46 u47 u48 u49 u50 u51 u52 u53 u54 u55 u56 u57 u58 u59 u60 u61 u62 u63 u64 u65 u66 u67 u68 u69 u70 u71 u72 u73 u74 u75 u76 u77 u78 u79 u80 u81 u82 u83 u84 u85 u86 u87 u88 u89 u90 u91 u92 u93 u94 u95 u96 u97 u98 u99 u100 u101 u102 u103 u104 u105 u106 u107 u108 u109 u110 u111 u112 u113 u114 u115 u116 u117 u118 u119 u120 u121 u122 u123 u124 u125 u126 u127 u128 u129 u130 u131 u132 u133 u134 u135 u136 u137 u138 u139 u140 u141 u142 u143 u144 u145 u146 u147 u148 u149 u150 u151 u152 u153 u154 u155 u156 u157 u158 u159 u160 u161 u162 u163 u164 u165 u166 u167 u168 u169 u170 u171 u172 u173 u174 u175 u176 u177 u178 u179 u180 u181 u182 u183 u184 u185 u186 u187 u188 u189 u190 u191 u192 u193 u194 u195 u196 u197 u198 u199 u200 u201 u202 u203 u204 u205 u206 u207 u208 u209 u210 u211 u212 u213 u214 u215 u216 u217 u218 u219 u220 u221 u222 u223 u224 : Value)
    (hK : ∀ (v59 v60 v61 v62 v63 v64 v65 v66 v67 v68 v69 v70 v71 v72 v73 v74 v75 v76 v77 v78 v79 v80 v81 v82 v83 v84 v85 v86 v87 v88 v89 v90 v91 v92 v93 v94 v95 v96 v97 v98 v99 v100 v101 v102 v103 v104 v105 v106 v107 v108 v109 v110 v111 v112 v113 v114 v115 v116 v117 v118 v119 v120 v121 v122 v123 v124 v125 v126 v127 v128 v129 v130 v131 v132 v133 v134 v135 v136 v137 v138 v139 v140 v141 v142 v143 : Value) (W : World), Keeps [] w W → K .normal ⟨#[.slice (some ⟨g1, o1, none⟩) n d1, u1, u2, u3, .pointer (some ⟨c, 0, none⟩), .pointer (some ⟨d, 0, none⟩), .int .i64 (j : Nat), sv s, .slice B1 q.length n1, .int .i64 z, sv s, .slice B2 q.length n2, .int .i64 z, u13, u14, u15, u16, u17, u18, u19, u20, u21, u22, u23, u24, u25, u26, u27, u28, u29, u30, u31, u32, u33, u34, u35, u36, u37, u38, u39, u40, u41, u42, u43, u44, u45, u46, u47, u48, u49, u50, u51, u52, u53, u54, u55, u56, u57, u58, v59, v60, v61, v62, v63, v64, v65, v66, v67, v68, v69, v70, v71, v72, v73, v74, v75, v76, v77, v78, v79, v80, v81, v82, v83, v84, v85, v86, v87, v88, v89, v90, v91, v92, v93, v94, v95, v96, v97, v98, v99, v100, v101, v102, v103, v104, v105, v106, v107, v108, v109, v110, v111, v112, v113, v114, v115, v116, v117, v118, v119, v120, v121, v122, v123, v124, v125, v126, v127, v128, v129, v130, v131, v132, v133, v134, v135, v136, v137, v138, v139, v140, v141, v142, v143, .bool false, u145, u146, u147, u148, u149, u150, u151, u152, u153, u154, u155, u156, u157, u158, u159, u160, u161, u162, u163, u164, u165, u166, u167, u168, u169, u170, u171, u172, u173, u174, u175, u176, u177, u178, u179, u180, u181, u182, u183, u184, u185, u186, u187, u188, u189, u190, u191, u192, u193, u194, u195, u196, u197, u198, u199, u200, u201, u202, u203, u204, u205, u206, u207, u208, u209, u210, u211, u212, u213, u214, u215, u216, u217, u218, u219, u220, u221, u222, u223, u224], []⟩ W) :
    Code.wp Tryz.prog tellR11C K ⟨#[.slice (some ⟨g1, o1, none⟩) n d1, u1, u2, u3, .pointer (some ⟨c, 0, none⟩), .pointer (some ⟨d, 0, none⟩), .int .i64 (j : Nat), sv s, .slice B1 q.length n1, .int .i64 z, sv s, .slice B2 q.length n2, .int .i64 z, u13, u14, u15, u16, u17, u18, u19, u20, u21, u22, u23, u24, u25, u26, u27, u28, u29, u30, u31, u32, u33, u34, u35, u36, u37, u38, u39, u40, u41, u42, u43, u44, u45, u46, u47, u48, u49, u50, u51, u52, u53, u54, u55, u56, u57, u58, u59, u60, u61, u62, u63, u64, u65, u66, u67, u68, u69, u70, u71, u72, u73, u74, u75, u76, u77, u78, u79, u80, u81, u82, u83, u84, u85, u86, u87, u88, u89, u90, u91, u92, u93, u94, u95, u96, u97, u98, u99, u100, u101, u102, u103, u104, u105, u106, u107, u108, u109, u110, u111, u112, u113, u114, u115, u116, u117, u118, u119, u120, u121, u122, u123, u124, u125, u126, u127, u128, u129, u130, u131, u132, u133, u134, u135, u136, u137, u138, u139, u140, u141, u142, u143, u144, u145, u146, u147, u148, u149, u150, u151, u152, u153, u154, u155, u156, u157, u158, u159, u160, u161, u162, u163, u164, u165, u166, u167, u168, u169, u170, u171, u172, u173, u174, u175, u176, u177, u178, u179, u180, u181, u182, u183, u184, u185, u186, u187, u188, u189, u190, u191, u192, u193, u194, u195, u196, u197, u198, u199, u200, u201, u202, u203, u204, u205, u206, u207, u208, u209, u210, u211, u212, u213, u214, u215, u216, u217, u218, u219, u220, u221, u222, u223, u224], []⟩ w := by
  have HS := Lib.hid hS
  have H13 := Lib.hid h13
  have H14 := Lib.hid h14
  have H15 := Lib.hid h15
  have H16 := Lib.hid h16
  have H17 := Lib.hid h17
  have H18 := Lib.hid h18
  have H19 := Lib.hid h19
  clear hS h13 h14 h15 h16 h17 h18 h19
  conv => arg 2; whnf
  try dsimp only at hK ⊢
  refine wp_region_noPanic ?_
  refine wp_region_held_drew (S := fun W => W.cell? ⟨g1, o1 + j * 9 + 1, none⟩ = some (.int .i64 id) ∧ W.cell? ⟨g1, o1 + j * 9 + 3, none⟩ = some (sv ky)) (by kernel_rfl) (HS.out _ ((Keeps.refl [] w).drew)) (fun hHeld => ?_)
  obtain ⟨w0, hw0⟩ : ∃ w0, w.drew = w0 := ⟨_, rfl⟩
  try rw [hw0] at hHeld
  rw [hw0]
  have K0 : Keeps [] w w0 := by rw [← hw0]; exact (Keeps.refl [] w).drew
  clear hw0
  refine wpAnyH_take (i := 0) (oi := ⟨some 59, .move (.tmp 7), 9, _, _, none⟩) (v := ?vq1) rfl (by kernel_rfl) (by kernel_rfl) (by kernel_rfl) (fun _ _ _ h => h) (Or.inl ⟨by rfl, fun W hW => ?_⟩) (by assumption) ?_
  rotate_left
  · go_simp
    with_reducible rfl
  try simp only [Act.put, lA, l0, lS]
  refine wpAnyH_take (i := 1) (oi := ⟨some 60, .move (.tmp 10), 9, _, _, none⟩) (v := ?vq2) rfl (by kernel_rfl) (by kernel_rfl) (by kernel_rfl) (fun _ _ _ h => h) (Or.inl ⟨by rfl, fun W hW => ?_⟩) (by assumption) ?_
  rotate_left
  · go_simp
    with_reducible rfl
  try simp only [Act.put, lA, l0, lS]
  refine wpAnyH_take (i := 2) (oi := ⟨some 61, .binOp .neq 9 (.tmp 59) (.tmp 60) 9, 4, _, _, none⟩) (v := .bool false) rfl (by kernel_rfl) (by kernel_rfl) (by kernel_rfl) (fun _ _ _ h => h) (Or.inl ⟨by rfl, fun W hW => ?_⟩) (by assumption) ?_
  · go_simp
  try simp only [Act.put, lA, l0, lS]
  refine wpAnyH_take (i := 3) (oi := ⟨some 62, .move (.tmp 61), 4, _, _, none⟩) (v := .bool false) rfl (by kernel_rfl) (by kernel_rfl) (by kernel_rfl) (fun _ _ _ h => h) (Or.inl ⟨by rfl, fun W hW => ?_⟩) (by assumption) ?_
  · go_simp
  try simp only [Act.put, lA, l0, lS]
  refine wpAnyH_take (i := 4) (oi := ⟨some 63, .move (.tmp 8), 29, _, _, some (3, false)⟩) (v := ?vq3) rfl (by kernel_rfl) (by kernel_rfl) (by kernel_rfl) (fun _ _ _ h => h) (Or.inl ⟨by rfl, fun W hW => ?_⟩) (by assumption) ?_
  rotate_left
  · go_simp
    with_reducible rfl
  try simp only [Act.put, lA, l0, lS]
  refine wpAnyH_take (i := 5) (oi := ⟨some 64, .move (.tmp 11), 29, _, _, some (3, false)⟩) (v := ?vq4) rfl (by kernel_rfl) (by kernel_rfl) (by kernel_rfl) (fun _ _ _ h => h) (Or.inl ⟨by rfl, fun W hW => ?_⟩) (by assumption) ?_
  rotate_left
  · go_simp
    with_reducible rfl
  try simp only [Act.put, lA, l0, lS]
  refine wpAnyH_ready (rs := [6]) (by kernel_rfl) (by simp) ?_
  refine AllReadyH.cons (o := ⟨some 65, .call { callee := .value (.func 13), args := #[.tmp 63, .tmp 64], argTypes := #[29, 29] }, 4, _, _, some (3, false)⟩) rfl (fun KK hKK => ?_) AllReadyH.nil
  refine step_callW (by rfl) 13 _ _ rfl #[.slice B1 q.length n1, .slice B2 q.length n2] (by first | (simp [Act.eval]; done) | (simp [Act.eval, Act.put]; done)) (enters_of Tryz.func13 (by kernel_rfl) rfl) (H13.out _ K0) ?_
  rintro e W1 ⟨rfl, k1⟩
  refine ⟨_, rfl, ?_⟩
  have K5 := K0.trans k1 (by simp)
  clear k1
  refine hKK.out _ _ (HS.out _ K5) (fun hHeld => ?_)
  clear hKK KK
  try simp only [Act.put, lA, l0, lS]
  refine wpAnyH_take (i := 7) (oi := ⟨some 66, .unOp .not 4 (.tmp 65), 4, _, _, some (3, false)⟩) (v := .bool false) rfl (by kernel_rfl) (by kernel_rfl) (by kernel_rfl) (fun _ _ _ h => h) (Or.inl ⟨by rfl, fun W hW => ?_⟩) (by assumption) ?_
  · go_simp
  try simp only [Act.put, lA, l0, lS]
  refine wpAnyH_take (i := 8) (oi := ⟨some 67, .pick (.tmp 62) (.const (Value.bool true)) (.tmp 66), 4, _, _, none⟩) (v := .bool false) rfl (by kernel_rfl) (by kernel_rfl) (by kernel_rfl) (fun _ _ _ h => h) (Or.inl ⟨by rfl, fun W hW => ?_⟩) (by assumption) ?_
  · go_simp
  try simp only [Act.put, lA, l0, lS]
  refine wpAnyH_take (i := 9) (oi := ⟨some 68, .move (.tmp 67), 4, _, _, none⟩) (v := .bool false) rfl (by kernel_rfl) (by kernel_rfl) (by kernel_rfl) (fun _ _ _ h => h) (Or.inl ⟨by rfl, fun W hW => ?_⟩) (by assumption) ?_
  · go_simp
  try simp only [Act.put, lA, l0, lS]
  refine wpAnyH_take (i := 10) (oi := ⟨some 69, .move (.tmp 9), 30, _, _, some (9, false)⟩) (v := ?vq6) rfl (by kernel_rfl) (by kernel_rfl) (by kernel_rfl) (fun _ _ _ h => h) (Or.inl ⟨by rfl, fun W hW => ?_⟩) (by assumption) ?_
  rotate_left
  · go_simp
    with_reducible rfl
  try simp only [Act.put, lA, l0, lS]
  refine wpAnyH_take (i := 11) (oi := ⟨some 70, .move (.tmp 12), 30, _, _, some (9, false)⟩) (v := ?vq7) rfl (by kernel_rfl) (by kernel_rfl) (by kernel_rfl) (fun _ _ _ h => h) (Or.inl ⟨by rfl, fun W hW => ?_⟩) (by assumption) ?_
  rotate_left
  · go_simp
    with_reducible rfl
  try simp only [Act.put, lA, l0, lS]
  refine wpAnyH_take (i := 12) (oi := ⟨some 71, .binOp .neq 30 (.tmp 69) (.tmp 70) 30, 4, _, _, some (9, false)⟩) (v := .bool false) rfl (by kernel_rfl) (by kernel_rfl) (by kernel_rfl) (fun _ _ _ h => h) (Or.inl ⟨by rfl, fun W hW => ?_⟩) (by assumption) ?_
  · go_simp
  try simp only [Act.put, lA, l0, lS]
  refine wpAnyH_take (i := 13) (oi := ⟨some 72, .pick (.tmp 68) (.const (Value.bool true)) (.tmp 71), 4, _, _, none⟩) (v := .bool false) rfl (by kernel_rfl) (by kernel_rfl) (by kernel_rfl) (fun _ _ _ h => h) (Or.inl ⟨by rfl, fun W hW => ?_⟩) (by assumption) ?_
  · go_simp
  try simp only [Act.put, lA, l0, lS]
  refine wpAnyH_take (i := 14) (oi := ⟨some 73, .move (.tmp 72), 4, _, _, none⟩) (v := .bool false) rfl (by kernel_rfl) (by kernel_rfl) (by kernel_rfl) (fun _ _ _ h => h) (Or.inl ⟨by rfl, fun W hW => ?_⟩) (by assumption) ?_
  · go_simp
  try simp only [Act.put, lA, l0, lS]
  refine wpAnyH_take (i := 15) (oi := ⟨some 74, .move (.tmp 4), 24, _, _, some (14, false)⟩) (v := ?vq8) rfl (by kernel_rfl) (by kernel_rfl) (by kernel_rfl) (fun _ _ _ h => h) (Or.inl ⟨by rfl, fun W hW => ?_⟩) (by assumption) ?_
  rotate_left
  · go_simp
    with_reducible rfl
  try simp only [Act.put, lA, l0, lS]
  refine wpAnyH_take (i := 16) (oi := ⟨some 75, .move (.tmp 0), 22, _, _, some (14, false)⟩) (v := ?vq9) rfl (by kernel_rfl) (by kernel_rfl) (by kernel_rfl) (fun _ _ _ h => h) (Or.inl ⟨by rfl, fun W hW => ?_⟩) (by assumption) ?_
  rotate_left
  · go_simp
    with_reducible rfl
  try simp only [Act.put, lA, l0, lS]
  refine wpAnyH_take (i := 17) (oi := ⟨some 76, .move (.tmp 6), 3, _, _, some (14, false)⟩) (v := ?vq10) rfl (by kernel_rfl) (by kernel_rfl) (by kernel_rfl) (fun _ _ _ h => h) (Or.inl ⟨by rfl, fun W hW => ?_⟩) (by assumption) ?_
  rotate_left
  · go_simp
    with_reducible rfl
  try simp only [Act.put, lA, l0, lS]
  refine wpAnyH_take (i := 18) (oi := ⟨some 77, .indexAddr 22 (.tmp 75) (.tmp 76), 0, _, _, some (14, false)⟩) (v := ?vq11) rfl (by kernel_rfl) (by kernel_rfl) (by kernel_rfl) (fun _ _ _ h => h) (Or.inl ⟨by rfl, fun W hW => ?_⟩) (by assumption) ?_
  rotate_left
  · go_simp
    with_reducible rfl
  try simp only [Act.put, lA, l0, lS]
  refine wpAnyH_take (i := 19) (oi := ⟨some 78, .fieldAddr 36 (.tmp 77) 1, 0, _, _, some (14, false)⟩) (v := ?vq12) rfl (by kernel_rfl) (by kernel_rfl) (by kernel_rfl) (fun _ _ _ h => h) (Or.inl ⟨by rfl, fun W hW => ?_⟩) (by assumption) ?_
  rotate_left
  · go_simp
    with_reducible rfl
  try simp only [Act.put, lA, l0, lS]
  refine wpAnyH_take (i := 20) (oi := ⟨some 79, .load 3 (.tmp 78), 3, _, _, some (14, false)⟩) (v := .int .i64 id) rfl (by kernel_rfl) (by kernel_rfl) (by kernel_rfl) (fun _ _ _ h => h) (Or.inl ⟨by rfl, fun W hW => ?_⟩) (by assumption) ?_
  · (obtain ⟨a0, a1⟩ := hW; go_simp)
  try simp only [Act.put, lA, l0, lS]
  refine wpAnyH_take (i := 22) (oi := ⟨some 81, .move (.tmp 5), 26, _, _, some (14, false)⟩) (v := ?vq13) rfl (by kernel_rfl) (by kernel_rfl) (by kernel_rfl) (fun _ _ _ h => h) (Or.inl ⟨by rfl, fun W hW => ?_⟩) (by assumption) ?_
  rotate_left
  · go_simp
    with_reducible rfl
  try simp only [Act.put, lA, l0, lS]
  refine wpAnyH_take (i := 23) (oi := ⟨some 82, .move (.tmp 0), 22, _, _, some (14, false)⟩) (v := ?vq14) rfl (by kernel_rfl) (by kernel_rfl) (by kernel_rfl) (fun _ _ _ h => h) (Or.inl ⟨by rfl, fun W hW => ?_⟩) (by assumption) ?_
  rotate_left
  · go_simp
    with_reducible rfl
  try simp only [Act.put, lA, l0, lS]
  refine wpAnyH_take (i := 24) (oi := ⟨some 83, .move (.tmp 6), 3, _, _, some (14, false)⟩) (v := ?vq15) rfl (by kernel_rfl) (by kernel_rfl) (by kernel_rfl) (fun _ _ _ h => h) (Or.inl ⟨by rfl, fun W hW => ?_⟩) (by assumption) ?_
  rotate_left
  · go_simp
    with_reducible rfl
  try simp only [Act.put, lA, l0, lS]
  refine wpAnyH_take (i := 25) (oi := ⟨some 84, .indexAddr 22 (.tmp 82) (.tmp 83), 0, _, _, some (14, false)⟩) (v := ?vq16) rfl (by kernel_rfl) (by kernel_rfl) (by kernel_rfl) (fun _ _ _ h => h) (Or.inl ⟨by rfl, fun W hW => ?_⟩) (by assumption) ?_
  rotate_left
  · go_simp
    with_reducible rfl
  try simp only [Act.put, lA, l0, lS]
  refine wpAnyH_take (i := 26) (oi := ⟨some 85, .fieldAddr 36 (.tmp 84) 1, 0, _, _, some (14, false)⟩) (v := ?vq17) rfl (by kernel_rfl) (by kernel_rfl) (by kernel_rfl) (fun _ _ _ h => h) (Or.inl ⟨by rfl, fun W hW => ?_⟩) (by assumption) ?_
  rotate_left
  · go_simp
    with_reducible rfl
  try simp only [Act.put, lA, l0, lS]
  refine wpAnyH_take (i := 27) (oi := ⟨some 86, .load 3 (.tmp 85), 3, _, _, some (14, false)⟩) (v := .int .i64 id) rfl (by kernel_rfl) (by kernel_rfl) (by kernel_rfl) (fun _ _ _ h => h) (Or.inl ⟨by rfl, fun W hW => ?_⟩) (by assumption) ?_
  · (obtain ⟨a0, a1⟩ := hW; go_simp)
  try simp only [Act.put, lA, l0, lS]
  refine wpAnyH_ready (rs := [21]) (by kernel_rfl) (by simp) ?_
  refine AllReadyH.cons (o := ⟨some 80, .call { callee := .value (.func 14), args := #[.tmp 74, .tmp 79], argTypes := #[24, 3] }, 4, _, _, some (14, false)⟩) rfl (fun KK hKK => ?_) AllReadyH.nil
  refine step_callW (by rfl) 14 _ _ rfl #[.pointer (some ⟨c, 0, none⟩), .int .i64 id] (by first | (simp [Act.eval]; done) | (simp [Act.eval, Act.put]; done)) (enters_of Tryz.func14 (by kernel_rfl) rfl) (H14.out _ K5) ?_
  rintro e W2 ⟨rfl, k1⟩
  refine ⟨_, rfl, ?_⟩
  have K18 := K5.trans k1 (by simp)
  clear k1
  refine hKK.out _ _ (HS.out _ K18) (fun hHeld => ?_)
  clear hKK KK
  try simp only [Act.put, lA, l0, lS]
  refine wpAnyH_ready (rs := [28]) (by kernel_rfl) (by simp) ?_
  refine AllReadyH.cons (o := ⟨some 87, .call { callee := .value (.func 15), args := #[.tmp 81, .tmp 86], argTypes := #[26, 3] }, 4, _, _, some (14, false)⟩) rfl (fun KK hKK => ?_) AllReadyH.nil
  refine step_callW (by rfl) 15 _ _ rfl #[.pointer (some ⟨d, 0, none⟩), .int .i64 id] (by first | (simp [Act.eval]; done) | (simp [Act.eval, Act.put]; done)) (enters_of Tryz.func15 (by kernel_rfl) rfl) (H15.out _ K18) ?_
  rintro e W3 ⟨rfl, k1⟩
  refine ⟨_, rfl, ?_⟩
  have K19 := K18.trans k1 (by simp)
  clear k1
  refine hKK.out _ _ (HS.out _ K19) (fun hHeld => ?_)
  clear hKK KK
  try simp only [Act.put, lA, l0, lS]
  refine wpAnyH_take (i := 29) (oi := ⟨some 88, .binOp .neq 4 (.tmp 80) (.tmp 87) 4, 4, _, _, some (14, false)⟩) (v := .bool false) rfl (by kernel_rfl) (by kernel_rfl) (by kernel_rfl) (fun _ _ _ h => h) (Or.inl ⟨by rfl, fun W hW => ?_⟩) (by assumption) ?_
  · (have hbb : (b != b) = false := by cases b <;> rfl
     go_simp)
  try simp only [Act.put, lA, l0, lS]
  refine wpAnyH_take (i := 30) (oi := ⟨some 89, .pick (.tmp 73) (.const (Value.bool true)) (.tmp 88), 4, _, _, none⟩) (v := .bool false) rfl (by kernel_rfl) (by kernel_rfl) (by kernel_rfl) (fun _ _ _ h => h) (Or.inl ⟨by rfl, fun W hW => ?_⟩) (by assumption) ?_
  · go_simp
  try simp only [Act.put, lA, l0, lS]
  refine wpAnyH_take (i := 31) (oi := ⟨some 90, .move (.tmp 89), 4, _, _, none⟩) (v := .bool false) rfl (by kernel_rfl) (by kernel_rfl) (by kernel_rfl) (fun _ _ _ h => h) (Or.inl ⟨by rfl, fun W hW => ?_⟩) (by assumption) ?_
  · go_simp
  try simp only [Act.put, lA, l0, lS]
  refine wpAnyH_take (i := 32) (oi := ⟨some 91, .move (.tmp 4), 24, _, _, some (31, false)⟩) (v := ?vq20) rfl (by kernel_rfl) (by kernel_rfl) (by kernel_rfl) (fun _ _ _ h => h) (Or.inl ⟨by rfl, fun W hW => ?_⟩) (by assumption) ?_
  rotate_left
  · go_simp
    with_reducible rfl
  try simp only [Act.put, lA, l0, lS]
  refine wpAnyH_take (i := 33) (oi := ⟨some 92, .move (.tmp 0), 22, _, _, some (31, false)⟩) (v := ?vq21) rfl (by kernel_rfl) (by kernel_rfl) (by kernel_rfl) (fun _ _ _ h => h) (Or.inl ⟨by rfl, fun W hW => ?_⟩) (by assumption) ?_
  rotate_left
  · go_simp
    with_reducible rfl
  try simp only [Act.put, lA, l0, lS]
  refine wpAnyH_take (i := 34) (oi := ⟨some 93, .move (.tmp 6), 3, _, _, some (31, false)⟩) (v := ?vq22) rfl (by kernel_rfl) (by kernel_rfl) (by kernel_rfl) (fun _ _ _ h => h) (Or.inl ⟨by rfl, fun W hW => ?_⟩) (by assumption) ?_
  rotate_left
  · go_simp
    with_reducible rfl
  try simp only [Act.put, lA, l0, lS]
  refine wpAnyH_take (i := 35) (oi := ⟨some 94, .indexAddr 22 (.tmp 92) (.tmp 93), 0, _, _, some (31, false)⟩) (v := ?vq23) rfl (by kernel_rfl) (by kernel_rfl) (by kernel_rfl) (fun _ _ _ h => h) (Or.inl ⟨by rfl, fun W hW => ?_⟩) (by assumption) ?_
  rotate_left
  · go_simp
    with_reducible rfl
  try simp only [Act.put, lA, l0, lS]
  refine wpAnyH_take (i := 36) (oi := ⟨some 95, .fieldAddr 36 (.tmp 94) 1, 0, _, _, some (31, false)⟩) (v := ?vq24) rfl (by kernel_rfl) (by kernel_rfl) (by kernel_rfl) (fun _ _ _ h => h) (Or.inl ⟨by rfl, fun W hW => ?_⟩) (by assumption) ?_
  rotate_left
  · go_simp
    with_reducible rfl
  try simp only [Act.put, lA, l0, lS]
  refine wpAnyH_take (i := 37) (oi := ⟨some 96, .load 3 (.tmp 95), 3, _, _, some (31, false)⟩) (v := .int .i64 id) rfl (by kernel_rfl) (by kernel_rfl) (by kernel_rfl) (fun _ _ _ h => h) (Or.inl ⟨by rfl, fun W hW => ?_⟩) (by assumption) ?_
  · (obtain ⟨a0, a1⟩ := hW; go_simp)
  try simp only [Act.put, lA, l0, lS]
  refine wpAnyH_take (i := 38) (oi := ⟨some 97, .move (.tmp 0), 22, _, _, some (31, false)⟩) (v := ?vq25) rfl (by kernel_rfl) (by kernel_rfl) (by kernel_rfl) (fun _ _ _ h => h) (Or.inl ⟨by rfl, fun W hW => ?_⟩) (by assumption) ?_
  rotate_left
  · go_simp
    with_reducible rfl
  try simp only [Act.put, lA, l0, lS]
  refine wpAnyH_take (i := 39) (oi := ⟨some 98, .move (.tmp 6), 3, _, _, some (31, false)⟩) (v := ?vq26) rfl (by kernel_rfl) (by kernel_rfl) (by kernel_rfl) (fun _ _ _ h => h) (Or.inl ⟨by rfl, fun W hW => ?_⟩) (by assumption) ?_
  rotate_left
  · go_simp
    with_reducible rfl
  try simp only [Act.put, lA, l0, lS]
  refine wpAnyH_take (i := 40) (oi := ⟨some 99, .indexAddr 22 (.tmp 97) (.tmp 98), 0, _, _, some (31, false)⟩) (v := ?vq27) rfl (by kernel_rfl) (by kernel_rfl) (by kernel_rfl) (fun _ _ _ h => h) (Or.inl ⟨by rfl, fun W hW => ?_⟩) (by assumption) ?_
  rotate_left
  · go_simp
    with_reducible rfl
  try simp only [Act.put, lA, l0, lS]
  refine wpAnyH_take (i := 41) (oi := ⟨some 100, .fieldAddr 36 (.tmp 99) 3, 0, _, _, some (31, false)⟩) (v := ?vq28) rfl (by kernel_rfl) (by kernel_rfl) (by kernel_rfl) (fun _ _ _ h => h) (Or.inl ⟨by rfl, fun W hW => ?_⟩) (by assumption) ?_
  rotate_left
  · go_simp
    with_reducible rfl
  try simp only [Act.put, lA, l0, lS]
  refine wpAnyH_take (i := 42) (oi := ⟨some 101, .load 9 (.tmp 100), 9, _, _, some (31, false)⟩) (v := sv ky) rfl (by kernel_rfl) (by kernel_rfl) (by kernel_rfl) (fun _ _ _ h => h) (Or.inl ⟨by rfl, fun W hW => ?_⟩) (by assumption) ?_
  · (obtain ⟨a0, a1⟩ := hW; go_simp)
  try simp only [Act.put, lA, l0, lS]
  refine wpAnyH_take (i := 44) (oi := ⟨some 103, .move (.tmp 5), 26, _, _, some (31, false)⟩) (v := ?vq29) rfl (by kernel_rfl) (by kernel_rfl) (by kernel_rfl) (fun _ _ _ h => h) (Or.inl ⟨by rfl, fun W hW => ?_⟩) (by assumption) ?_
  rotate_left
  · go_simp
    with_reducible rfl
  try simp only [Act.put, lA, l0, lS]
  refine wpAnyH_take (i := 45) (oi := ⟨some 104, .move (.tmp 0), 22, _, _, some (31, false)⟩) (v := ?vq30) rfl (by kernel_rfl) (by kernel_rfl) (by kernel_rfl) (fun _ _ _ h => h) (Or.inl ⟨by rfl, fun W hW => ?_⟩) (by assumption) ?_
  rotate_left
  · go_simp
    with_reducible rfl
  try simp only [Act.put, lA, l0, lS]
  refine wpAnyH_take (i := 46) (oi := ⟨some 105, .move (.tmp 6), 3, _, _, some (31, false)⟩) (v := ?vq31) rfl (by kernel_rfl) (by kernel_rfl) (by kernel_rfl) (fun _ _ _ h => h) (Or.inl ⟨by rfl, fun W hW => ?_⟩) (by assumption) ?_
  rotate_left
  · go_simp
    with_reducible rfl
  try simp only [Act.put, lA, l0, lS]
  refine wpAnyH_take (i := 47) (oi := ⟨some 106, .indexAddr 22 (.tmp 104) (.tmp 105), 0, _, _, some (31, false)⟩) (v := ?vq32) rfl (by kernel_rfl) (by kernel_rfl) (by kernel_rfl) (fun _ _ _ h => h) (Or.inl ⟨by rfl, fun W hW => ?_⟩) (by assumption) ?_
  rotate_left
  · go_simp
    with_reducible rfl
  try simp only [Act.put, lA, l0, lS]
  refine wpAnyH_take (i := 48) (oi := ⟨some 107, .fieldAddr 36 (.tmp 106) 1, 0, _, _, some (31, false)⟩) (v := ?vq33) rfl (by kernel_rfl) (by kernel_rfl) (by kernel_rfl) (fun _ _ _ h => h) (Or.inl ⟨by rfl, fun W hW => ?_⟩) (by assumption) ?_
  rotate_left
  · go_simp
    with_reducible rfl
  try simp only [Act.put, lA, l0, lS]
  refine wpAnyH_take (i := 49) (oi := ⟨some 108, .load 3 (.tmp 107), 3, _, _, some (31, false)⟩) (v := .int .i64 id) rfl (by kernel_rfl) (by kernel_rfl) (by kernel_rfl) (fun _ _ _ h => h) (Or.inl ⟨by rfl, fun W hW => ?_⟩) (by assumption) ?_
  · (obtain ⟨a0, a1⟩ := hW; go_simp)
  try simp only [Act.put, lA, l0, lS]
  refine wpAnyH_take (i := 50) (oi := ⟨some 109, .move (.tmp 0), 22, _, _, some (31, false)⟩) (v := ?vq34) rfl (by kernel_rfl) (by kernel_rfl) (by kernel_rfl) (fun _ _ _ h => h) (Or.inl ⟨by rfl, fun W hW => ?_⟩) (by assumption) ?_
  rotate_left
  · go_simp
    with_reducible rfl
  try simp only [Act.put, lA, l0, lS]
  refine wpAnyH_take (i := 51) (oi := ⟨some 110, .move (.tmp 6), 3, _, _, some (31, false)⟩) (v := ?vq35) rfl (by kernel_rfl) (by kernel_rfl) (by kernel_rfl) (fun _ _ _ h => h) (Or.inl ⟨by rfl, fun W hW => ?_⟩) (by assumption) ?_
  rotate_left
  · go_simp
    with_reducible rfl
  try simp only [Act.put, lA, l0, lS]
  refine wpAnyH_take (i := 52) (oi := ⟨some 111, .indexAddr 22 (.tmp 109) (.tmp 110), 0, _, _, some (31, false)⟩) (v := ?vq36) rfl (by kernel_rfl) (by kernel_rfl) (by kernel_rfl) (fun _ _ _ h => h) (Or.inl ⟨by rfl, fun W hW => ?_⟩) (by assumption) ?_
  rotate_left
  · go_simp
    with_reducible rfl
  try simp only [Act.put, lA, l0, lS]
  refine wpAnyH_take (i := 53) (oi := ⟨some 112, .fieldAddr 36 (.tmp 111) 3, 0, _, _, some (31, false)⟩) (v := ?vq37) rfl (by kernel_rfl) (by kernel_rfl) (by kernel_rfl) (fun _ _ _ h => h) (Or.inl ⟨by rfl, fun W hW => ?_⟩) (by assumption) ?_
  rotate_left
  · go_simp
    with_reducible rfl
  try simp only [Act.put, lA, l0, lS]
  refine wpAnyH_take (i := 54) (oi := ⟨some 113, .load 9 (.tmp 112), 9, _, _, some (31, false)⟩) (v := sv ky) rfl (by kernel_rfl) (by kernel_rfl) (by kernel_rfl) (fun _ _ _ h => h) (Or.inl ⟨by rfl, fun W hW => ?_⟩) (by assumption) ?_
  · (obtain ⟨a0, a1⟩ := hW; go_simp)
  try simp only [Act.put, lA, l0, lS]
  refine wpAnyH_ready (rs := [43]) (by kernel_rfl) (by simp) ?_
  refine AllReadyH.cons (o := ⟨some 102, .call { callee := .value (.func 16), args := #[.tmp 91, .tmp 96, .tmp 101], argTypes := #[24, 3, 9] }, 9, _, _, some (31, false)⟩) rfl (fun KK hKK => ?_) AllReadyH.nil
  refine step_callW (by rfl) 16 _ _ rfl #[.pointer (some ⟨c, 0, none⟩), .int .i64 id, sv ky] (by first | (simp [Act.eval]; done) | (simp [Act.eval, Act.put]; done)) (enters_of Tryz.func16 (by kernel_rfl) rfl) (H16.out _ K19) ?_
  rintro e W4 ⟨rfl, k1⟩
  refine ⟨_, rfl, ?_⟩
  have K38 := K19.trans k1 (by simp)
  clear k1
  refine hKK.out _ _ (HS.out _ K38) (fun hHeld => ?_)
  clear hKK KK
  try simp only [Act.put, lA, l0, lS]
  refine wpAnyH_ready (rs := [55]) (by kernel_rfl) (by simp) ?_
  refine AllReadyH.cons (o := ⟨some 114, .call { callee := .value (.func 17), args := #[.tmp 103, .tmp 108, .tmp 113], argTypes := #[26, 3, 9] }, 9, _, _, some (31, false)⟩) rfl (fun KK hKK => ?_) AllReadyH.nil
  refine step_callW (by rfl) 17 _ _ rfl #[.pointer (some ⟨d, 0, none⟩), .int .i64 id, sv ky] (by first | (simp [Act.eval]; done) | (simp [Act.eval, Act.put]; done)) (enters_of Tryz.func17 (by kernel_rfl) rfl) (H17.out _ K38) ?_
  rintro e W5 ⟨rfl, k1⟩
  refine ⟨_, rfl, ?_⟩
  have K39 := K38.trans k1 (by simp)
  clear k1
  refine hKK.out _ _ (HS.out _ K39) (fun hHeld => ?_)
  clear hKK KK
  try simp only [Act.put, lA, l0, lS]
  refine wpAnyH_take (i := 56) (oi := ⟨some 115, .binOp .neq 9 (.tmp 102) (.tmp 114) 9, 4, _, _, some (31, false)⟩) (v := .bool false) rfl (by kernel_rfl) (by kernel_rfl) (by kernel_rfl) (fun _ _ _ h => h) (Or.inl ⟨by rfl, fun W hW => ?_⟩) (by assumption) ?_
  · go_simp
  try simp only [Act.put, lA, l0, lS]
  refine wpAnyH_take (i := 57) (oi := ⟨some 116, .pick (.tmp 90) (.const (Value.bool true)) (.tmp 115), 4, _, _, none⟩) (v := .bool false) rfl (by kernel_rfl) (by kernel_rfl) (by kernel_rfl) (fun _ _ _ h => h) (Or.inl ⟨by rfl, fun W hW => ?_⟩) (by assumption) ?_
  · go_simp
  try simp only [Act.put, lA, l0, lS]
  refine wpAnyH_take (i := 58) (oi := ⟨some 117, .move (.tmp 116), 4, _, _, none⟩) (v := .bool false) rfl (by kernel_rfl) (by kernel_rfl) (by kernel_rfl) (fun _ _ _ h => h) (Or.inl ⟨by rfl, fun W hW => ?_⟩) (by assumption) ?_
  · go_simp
  try simp only [Act.put, lA, l0, lS]
  refine wpAnyH_take (i := 59) (oi := ⟨some 118, .move (.tmp 4), 24, _, _, some (58, false)⟩) (v := ?vq40) rfl (by kernel_rfl) (by kernel_rfl) (by kernel_rfl) (fun _ _ _ h => h) (Or.inl ⟨by rfl, fun W hW => ?_⟩) (by assumption) ?_
  rotate_left
  · go_simp
    with_reducible rfl
  try simp only [Act.put, lA, l0, lS]
  refine wpAnyH_take (i := 60) (oi := ⟨some 119, .move (.tmp 0), 22, _, _, some (58, false)⟩) (v := ?vq41) rfl (by kernel_rfl) (by kernel_rfl) (by kernel_rfl) (fun _ _ _ h => h) (Or.inl ⟨by rfl, fun W hW => ?_⟩) (by assumption) ?_
  rotate_left
  · go_simp
    with_reducible rfl
  try simp only [Act.put, lA, l0, lS]
  refine wpAnyH_take (i := 61) (oi := ⟨some 120, .move (.tmp 6), 3, _, _, some (58, false)⟩) (v := ?vq42) rfl (by kernel_rfl) (by kernel_rfl) (by kernel_rfl) (fun _ _ _ h => h) (Or.inl ⟨by rfl, fun W hW => ?_⟩) (by assumption) ?_
  rotate_left
  · go_simp
    with_reducible rfl
  try simp only [Act.put, lA, l0, lS]
  refine wpAnyH_take (i := 62) (oi := ⟨some 121, .indexAddr 22 (.tmp 119) (.tmp 120), 0, _, _, some (58, false)⟩) (v := ?vq43) rfl (by kernel_rfl) (by kernel_rfl) (by kernel_rfl) (fun _ _ _ h => h) (Or.inl ⟨by rfl, fun W hW => ?_⟩) (by assumption) ?_
  rotate_left
  · go_simp
    with_reducible rfl
  try simp only [Act.put, lA, l0, lS]
  refine wpAnyH_take (i := 63) (oi := ⟨some 122, .fieldAddr 36 (.tmp 121) 1, 0, _, _, some (58, false)⟩) (v := ?vq44) rfl (by kernel_rfl) (by kernel_rfl) (by kernel_rfl) (fun _ _ _ h => h) (Or.inl ⟨by rfl, fun W hW => ?_⟩) (by assumption) ?_
  rotate_left
  · go_simp
    with_reducible rfl
  try simp only [Act.put, lA, l0, lS]
  refine wpAnyH_take (i := 64) (oi := ⟨some 123, .load 3 (.tmp 122), 3, _, _, some (58, false)⟩) (v := .int .i64 id) rfl (by kernel_rfl) (by kernel_rfl) (by kernel_rfl) (fun _ _ _ h => h) (Or.inl ⟨by rfl, fun W hW => ?_⟩) (by assumption) ?_
  · (obtain ⟨a0, a1⟩ := hW; go_simp)
  try simp only [Act.put, lA, l0, lS]
  refine wpAnyH_take (i := 65) (oi := ⟨some 124, .move (.tmp 0), 22, _, _, some (58, false)⟩) (v := ?vq45) rfl (by kernel_rfl) (by kernel_rfl) (by kernel_rfl) (fun _ _ _ h => h) (Or.inl ⟨by rfl, fun W hW => ?_⟩) (by assumption) ?_
  rotate_left
  · go_simp
    with_reducible rfl
  try simp only [Act.put, lA, l0, lS]
  refine wpAnyH_take (i := 66) (oi := ⟨some 125, .move (.tmp 6), 3, _, _, some (58, false)⟩) (v := ?vq46) rfl (by kernel_rfl) (by kernel_rfl) (by kernel_rfl) (fun _ _ _ h => h) (Or.inl ⟨by rfl, fun W hW => ?_⟩) (by assumption) ?_
  rotate_left
  · go_simp
    with_reducible rfl
  try simp only [Act.put, lA, l0, lS]
  refine wpAnyH_take (i := 67) (oi := ⟨some 126, .indexAddr 22 (.tmp 124) (.tmp 125), 0, _, _, some (58, false)⟩) (v := ?vq47) rfl (by kernel_rfl) (by kernel_rfl) (by kernel_rfl) (fun _ _ _ h => h) (Or.inl ⟨by rfl, fun W hW => ?_⟩) (by assumption) ?_
  rotate_left
  · go_simp
    with_reducible rfl
  try simp only [Act.put, lA, l0, lS]
  refine wpAnyH_take (i := 68) (oi := ⟨some 127, .fieldAddr 36 (.tmp 126) 3, 0, _, _, some (58, false)⟩) (v := ?vq48) rfl (by kernel_rfl) (by kernel_rfl) (by kernel_rfl) (fun _ _ _ h => h) (Or.inl ⟨by rfl, fun W hW => ?_⟩) (by assumption) ?_
  rotate_left
  · go_simp
    with_reducible rfl
  try simp only [Act.put, lA, l0, lS]
  refine wpAnyH_take (i := 69) (oi := ⟨some 128, .load 9 (.tmp 127), 9, _, _, some (58, false)⟩) (v := sv ky) rfl (by kernel_rfl) (by kernel_rfl) (by kernel_rfl) (fun _ _ _ h => h) (Or.inl ⟨by rfl, fun W hW => ?_⟩) (by assumption) ?_
  · (obtain ⟨a0, a1⟩ := hW; go_simp)
  try simp only [Act.put, lA, l0, lS]
  refine wpAnyH_take (i := 71) (oi := ⟨some 130, .move (.tmp 5), 26, _, _, some (58, false)⟩) (v := ?vq49) rfl (by kernel_rfl) (by kernel_rfl) (by kernel_rfl) (fun _ _ _ h => h) (Or.inl ⟨by rfl, fun W hW => ?_⟩) (by assumption) ?_
  rotate_left
  · go_simp
    with_reducible rfl
  try simp only [Act.put, lA, l0, lS]
  refine wpAnyH_take (i := 72) (oi := ⟨some 131, .move (.tmp 0), 22, _, _, some (58, false)⟩) (v := ?vq50) rfl (by kernel_rfl) (by kernel_rfl) (by kernel_rfl) (fun _ _ _ h => h) (Or.inl ⟨by rfl, fun W hW => ?_⟩) (by assumption) ?_
  rotate_left
  · go_simp
    with_reducible rfl
  try simp only [Act.put, lA, l0, lS]
  refine wpAnyH_take (i := 73) (oi := ⟨some 132, .move (.tmp 6), 3, _, _, some (58, false)⟩) (v := ?vq51) rfl (by kernel_rfl) (by kernel_rfl) (by kernel_rfl) (fun _ _ _ h => h) (Or.inl ⟨by rfl, fun W hW => ?_⟩) (by assumption) ?_
  rotate_left
  · go_simp
    with_reducible rfl
  try simp only [Act.put, lA, l0, lS]
  refine wpAnyH_take (i := 74) (oi := ⟨some 133, .indexAddr 22 (.tmp 131) (.tmp 132), 0, _, _, some (58, false)⟩) (v := ?vq52) rfl (by kernel_rfl) (by kernel_rfl) (by kernel_rfl) (fun _ _ _ h => h) (Or.inl ⟨by rfl, fun W hW => ?_⟩) (by assumption) ?_
  rotate_left
  · go_simp
    with_reducible rfl
  try simp only [Act.put, lA, l0, lS]
  refine wpAnyH_take (i := 75) (oi := ⟨some 134, .fieldAddr 36 (.tmp 133) 1, 0, _, _, some (58, false)⟩) (v := ?vq53) rfl (by kernel_rfl) (by kernel_rfl) (by kernel_rfl) (fun _ _ _ h => h) (Or.inl ⟨by rfl, fun W hW => ?_⟩) (by assumption) ?_
  rotate_left
  · go_simp
    with_reducible rfl
  try simp only [Act.put, lA, l0, lS]
  refine wpAnyH_take (i := 76) (oi := ⟨some 135, .load 3 (.tmp 134), 3, _, _, some (58, false)⟩) (v := .int .i64 id) rfl (by kernel_rfl) (by kernel_rfl) (by kernel_rfl) (fun _ _ _ h => h) (Or.inl ⟨by rfl, fun W hW => ?_⟩) (by assumption) ?_
  · (obtain ⟨a0, a1⟩ := hW; go_simp)
  try simp only [Act.put, lA, l0, lS]
  refine wpAnyH_take (i := 77) (oi := ⟨some 136, .move (.tmp 0), 22, _, _, some (58, false)⟩) (v := ?vq54) rfl (by kernel_rfl) (by kernel_rfl) (by kernel_rfl) (fun _ _ _ h => h) (Or.inl ⟨by rfl, fun W hW => ?_⟩) (by assumption) ?_
  rotate_left
  · go_simp
    with_reducible rfl
  try simp only [Act.put, lA, l0, lS]
  refine wpAnyH_take (i := 78) (oi := ⟨some 137, .move (.tmp 6), 3, _, _, some (58, false)⟩) (v := ?vq55) rfl (by kernel_rfl) (by kernel_rfl) (by kernel_rfl) (fun _ _ _ h => h) (Or.inl ⟨by rfl, fun W hW => ?_⟩) (by assumption) ?_
  rotate_left
  · go_simp
    with_reducible rfl
  try simp only [Act.put, lA, l0, lS]
  refine wpAnyH_take (i := 79) (oi := ⟨some 138, .indexAddr 22 (.tmp 136) (.tmp 137), 0, _, _, some (58, false)⟩) (v := ?vq56) rfl (by kernel_rfl) (by kernel_rfl) (by kernel_rfl) (fun _ _ _ h => h) (Or.inl ⟨by rfl, fun W hW => ?_⟩) (by assumption) ?_
  rotate_left
  · go_simp
    with_reducible rfl
  try simp only [Act.put, lA, l0, lS]
  refine wpAnyH_take (i := 80) (oi := ⟨some 139, .fieldAddr 36 (.tmp 138) 3, 0, _, _, some (58, false)⟩) (v := ?vq57) rfl (by kernel_rfl) (by kernel_rfl) (by kernel_rfl) (fun _ _ _ h => h) (Or.inl ⟨by rfl, fun W hW => ?_⟩) (by assumption) ?_
  rotate_left
  · go_simp
    with_reducible rfl
  try simp only [Act.put, lA, l0, lS]
  refine wpAnyH_take (i := 81) (oi := ⟨some 140, .load 9 (.tmp 139), 9, _, _, some (58, false)⟩) (v := sv ky) rfl (by kernel_rfl) (by kernel_rfl) (by kernel_rfl) (fun _ _ _ h => h) (Or.inl ⟨by rfl, fun W hW => ?_⟩) (by assumption) ?_
  · (obtain ⟨a0, a1⟩ := hW; go_simp)
  try simp only [Act.put, lA, l0, lS]
  refine wpAnyH_ready (rs := [70]) (by kernel_rfl) (by simp) ?_
  refine AllReadyH.cons (o := ⟨some 129, .call { callee := .value (.func 18), args := #[.tmp 118, .tmp 123, .tmp 128], argTypes := #[24, 3, 9] }, 29, _, _, some (58, false)⟩) rfl (fun KK hKK => ?_) AllReadyH.nil
  refine step_callW (by rfl) 18 _ _ rfl #[.pointer (some ⟨c, 0, none⟩), .int .i64 id, sv ky] (by first | (simp [Act.eval]; done) | (simp [Act.eval, Act.put]; done)) (enters_of Tryz.func18 (by kernel_rfl) rfl) (H18.out _ K39) ?_
  rintro e W6 ⟨⟨A1, m1, rfl, r1⟩, k1⟩
  refine ⟨_, rfl, ?_⟩
  have K58 := K39.trans k1 (by simp)
  have R1 := Lib.hid r1
  clear r1
  clear k1
  refine hKK.out _ _ (HS.out _ K58) (fun hHeld => ?_)
  clear hKK KK
  try simp only [Act.put, lA, l0, lS]
  refine wpAnyH_ready (rs := [82]) (by kernel_rfl) (by simp) ?_
  refine AllReadyH.cons (o := ⟨some 141, .call { callee := .value (.func 19), args := #[.tmp 130, .tmp 135, .tmp 140], argTypes := #[26, 3, 9] }, 29, _, _, some (58, false)⟩) rfl (fun KK hKK => ?_) AllReadyH.nil
  refine step_callW (by rfl) 19 _ _ rfl #[.pointer (some ⟨d, 0, none⟩), .int .i64 id, sv ky] (by first | (simp [Act.eval]; done) | (simp [Act.eval, Act.put]; done)) (enters_of Tryz.func19 (by kernel_rfl) rfl) (H19.out _ K58) ?_
  rintro e W7 ⟨⟨A2, m2, rfl, r2⟩, k1⟩
  refine ⟨_, rfl, ?_⟩
  have K59 := K58.trans k1 (by simp)
  have R2 := Lib.hid r2
  have R3 := Lib.hid (own_keep R1.out k1 (by simp))
  clear r2 R1
  clear k1
  refine hKK.out _ _ (HS.out _ K59) (fun hHeld => ?_)
  clear hKK KK
  try simp only [Act.put, lA, l0, lS]
  refine wpAnyH_ready (rs := [83]) (by kernel_rfl) (by simp) ?_
  refine AllReadyH.cons (o := ⟨some 142, .call { callee := .value (.func 13), args := #[.tmp 129, .tmp 141], argTypes := #[29, 29] }, 4, _, _, some (58, false)⟩) rfl (fun KK hKK => ?_) AllReadyH.nil
  refine step_callW (by rfl) 13 _ _ rfl #[.slice A1 q2.length m1, .slice A2 q2.length m2] (by first | (simp [Act.eval]; done) | (simp [Act.eval, Act.put]; done)) (enters_of Tryz.func13 (by kernel_rfl) rfl) (same_eq R3.out R2.out hq) ?_
  rintro e W8 ⟨rfl, k1⟩
  refine ⟨_, rfl, ?_⟩
  have K60 := K59.trans k1 (by simp)
  clear k1
  refine hKK.out _ _ (HS.out _ K60) (fun hHeld => ?_)
  clear hKK KK
  try simp only [Act.put, lA, l0, lS]
  refine wpAnyH_take (i := 84) (oi := ⟨some 143, .unOp .not 4 (.tmp 142), 4, _, _, some (58, false)⟩) (v := .bool false) rfl (by kernel_rfl) (by kernel_rfl) (by kernel_rfl) (fun _ _ _ h => h) (Or.inl ⟨by rfl, fun W hW => ?_⟩) (by assumption) ?_
  · go_simp
  try simp only [Act.put, lA, l0, lS]
  refine wpAnyH_take (i := 85) (oi := ⟨some 144, .pick (.tmp 117) (.const (Value.bool true)) (.tmp 143), 4, _, _, none⟩) (v := .bool false) rfl (by kernel_rfl) (by kernel_rfl) (by kernel_rfl) (fun _ _ _ h => h) (Or.inl ⟨by rfl, fun W hW => ?_⟩) (by assumption) ?_
  · go_simp
  try simp only [Act.put, lA, l0, lS]
  refine wpAnyH_done (by kernel_rfl) ?_ _
  refine NoPanic.normal ?_
  exact hK _ _ _ _ _ _ _ _ _ _ _ _ _ _ _ _ _ _ _ _ _ _ _ _ _ _ _ _ _ _ _ _ _ _ _ _ _ _ _ _ _ _ _ _ _ _ _ _ _ _ _ _ _ _ _ _ _ _ _ _ _ _ _ _ _ _ _ _ _ _ _ _ _ _ _ _ _ _ _ _ _ _ _ _ _ _ K60
noncomputable def tellR27C : Code := ((Tryz.f3.body.bind (theRegion 27)).getD .skip)
set_option maxRecDepth 1000000 in
set_option maxHeartbeats 1600000 in
set_option linter.unusedSimpArgs false in
theorem tellR27_any (w : World) (c d g1 n d1 k : Nat) (id : Int) (ky s : Str) (K : Exit → Act → World → Prop)
    (hS : ∀ W, Keeps [] w W → W.cell? ⟨g1, k, none⟩ = some (sv ky))
    (hC : ∀ W, Keeps [] w W → Calls Tryz.prog 31 #[.pointer (some ⟨c, 0, none⟩), .int .i64 id, sv ky] W fun e w' => e = .returned (sv s) ∧ Keeps [] W w')
    (hD : ∀ W, Keeps [] w W → Calls Tryz.prog 32 #[.pointer (some ⟨d, 0, none⟩), .int .i64 id, sv ky] W fun e w' => e = .returned (sv s) ∧ Keeps [] W w')
    (i0 : (0 : Int) ≤ (k : Int)) (i1 : (k : Int) < (n : Int))
    (u0 u1 u2 u3 u6 u7 u8 u9 u10 u11 u12 u13 u14 u18 u19 u20 u21 u22 u23 u24 u25 u26 u27 u28 u29 u30 u31 u32 u33 u34 u35 u36 u37 u38 u39 u40 u41 u42 u43 u44 u45 u46 u47 u48 u49 u50 u51 u52 u53 u54 u55 u56 u57 u58 u59 u60 u61 u62 u63 u64 u65 u66 u67 u68 u69 u70 u71 u72 u73 u74 u75 u76 u77 u78 u79 u80 u81 u82 u83 u84 u85 u86 u87 u88 u89 u90 u91 u92 u93 u94 u95 u96 u97 u98 u99 u100 u101 u102 u103 u104 u105 u106 u107 u108 u109 u110 u111 u112 u113 u114 u115 u116 u117 u118 u119 u120 u121 u122 u123 u124 u125 u126 u127 u128 u129 u130 u131 u132 u133 u134 u135 u136 u137 u138 u139 u140 u141 u142 u143 u144 u145 u146 u147 u148 u149 u150 u151 u152 u153 u154 u155 u156 u157 u158 u159 u160 u161 u162 u163 u164 u165 u166 u167 u168 u169 u170 u171 u172 u173 u174 u175 u176 u177 u178 u179 u180 u181 u182 u183 u184 u185 u186 u187 u188 u189 u190 u191 u192 u193 u194 u195 u196 u197 u198 u199 u200 u201 u202 u203 u204 u205 u206 u207 u208 u209 u210 u211 u212 u213 u214 u215 u216 u217 u218 u219 u220 u221 u222 u223 u224 : Value)
    (hK : ∀ (v209 v210 v211 v212 v213 v214 v215 v216 v217 v218 v219 v220 v221 v222 : Value) (W : World), Keeps [] w W → K .normal ⟨#[u0, u1, u2, u3, .pointer (some ⟨c, 0, none⟩), .pointer (some ⟨d, 0, none⟩), u6, u7, u8, u9, u10, u11, u12, u13, u14, .int .i64 id, .slice (some ⟨g1, 0, none⟩) n d1, .int .i64 (k : Nat), u18, u19, u20, u21, u22, u23, u24, u25, u26, u27, u28, u29, u30, u31, u32, u33, u34, u35, u36, u37, u38, u39, u40, u41, u42, u43, u44, u45, u46, u47, u48, u49, u50, u51, u52, u53, u54, u55, u56, u57, u58, u59, u60, u61, u62, u63, u64, u65, u66, u67, u68, u69, u70, u71, u72, u73, u74, u75, u76, u77, u78, u79, u80, u81, u82, u83, u84, u85, u86, u87, u88, u89, u90, u91, u92, u93, u94, u95, u96, u97, u98, u99, u100, u101, u102, u103, u104, u105, u106, u107, u108, u109, u110, u111, u112, u113, u114, u115, u116, u117, u118, u119, u120, u121, u122, u123, u124, u125, u126, u127, u128, u129, u130, u131, u132, u133, u134, u135, u136, u137, u138, u139, u140, u141, u142, u143, u144, u145, u146, u147, u148, u149, u150, u151, u152, u153, u154, u155, u156, u157, u158, u159, u160, u161, u162, u163, u164, u165, u166, u167, u168, u169, u170, u171, u172, u173, u174, u175, u176, u177, u178, u179, u180, u181, u182, u183, u184, u185, u186, u187, u188, u189, u190, u191, u192, u193, u194, u195, u196, u197, u198, u199, u200, u201, u202, u203, u204, u205, u206, u207, u208, v209, v210, v211, v212, v213, v214, v215, v216, v217, v218, v219, v220, v221, v222, .bool false, u224], []⟩ W) :
    Code.wp Tryz.prog tellR27C K ⟨#[u0, u1, u2, u3, .pointer (some ⟨c, 0, none⟩), .pointer (some ⟨d, 0, none⟩), u6, u7, u8, u9, u10, u11, u12, u13, u14, .int .i64 id, .slice (some ⟨g1, 0, none⟩) n d1, .int .i64 (k : Nat), u18, u19, u20, u21, u22, u23, u24, u25, u26, u27, u28, u29, u30, u31, u32, u33, u34, u35, u36, u37, u38, u39, u40, u41, u42, u43, u44, u45, u46, u47, u48, u49, u50, u51, u52, u53, u54, u55, u56, u57, u58, u59, u60, u61, u62, u63, u64, u65, u66, u67, u68, u69, u70, u71, u72, u73, u74, u75, u76, u77, u78, u79, u80, u81, u82, u83, u84, u85, u86, u87, u88, u89, u90, u91, u92, u93, u94, u95, u96, u97, u98, u99, u100, u101, u102, u103, u104, u105, u106, u107, u108, u109, u110, u111, u112, u113, u114, u115, u116, u117, u118, u119, u120, u121, u122, u123, u124, u125, u126, u127, u128, u129, u130, u131, u132, u133, u134, u135, u136, u137, u138, u139, u140, u141, u142, u143, u144, u145, u146, u147, u148, u149, u150, u151, u152, u153, u154, u155, u156, u157, u158, u159, u160, u161, u162, u163, u164, u165, u166, u167, u168, u169, u170, u171, u172, u173, u174, u175, u176, u177, u178, u179, u180, u181, u182, u183, u184, u185, u186, u187, u188, u189, u190, u191, u192, u193, u194, u195, u196, u197, u198, u199, u200, u201, u202, u203, u204, u205, u206, u207, u208, u209, u210, u211, u212, u213, u214, u215, u216, u217, u218, u219, u220, u221, u222, u223, u224], []⟩ w := by
  have HS := Lib.hid hS
  have HC := Lib.hid hC
  have HD := Lib.hid hD
  clear hS hC hD
  conv => arg 2; whnf
  try dsimp only at hK ⊢
  refine wp_region_noPanic ?_
  refine wp_region_held_drew (S := fun W => W.cell? ⟨g1, k, none⟩ = some (sv ky)) (by kernel_rfl) (HS.out _ ((Keeps.refl [] w).drew)) (fun hHeld => ?_)
  obtain ⟨w0, hw0⟩ : ∃ w0, w.drew = w0 := ⟨_, rfl⟩
  try rw [hw0] at hHeld
  rw [hw0]
  have K0 : Keeps [] w w0 := by rw [← hw0]; exact (Keeps.refl [] w).drew
  clear hw0
  refine wpAnyH_take (i := 0) (oi := ⟨some 209, .move (.tmp 4), 24, _, _, none⟩) (v := ?vq61) rfl (by kernel_rfl) (by kernel_rfl) (by kernel_rfl) (fun _ _ _ h => h) (Or.inl ⟨by rfl, fun W hW => ?_⟩) (by assumption) ?_
  rotate_left
  · go_simp
    with_reducible rfl
  try simp only [Act.put, lA, l0, lS]
  refine wpAnyH_take (i := 1) (oi := ⟨some 210, .move (.tmp 15), 3, _, _, none⟩) (v := ?vq62) rfl (by kernel_rfl) (by kernel_rfl) (by kernel_rfl) (fun _ _ _ h => h) (Or.inl ⟨by rfl, fun W hW => ?_⟩) (by assumption) ?_
  rotate_left
  · go_simp
    with_reducible rfl
  try simp only [Act.put, lA, l0, lS]
  refine wpAnyH_take (i := 2) (oi := ⟨some 211, .move (.tmp 16), 29, _, _, none⟩) (v := ?vq63) rfl (by kernel_rfl) (by kernel_rfl) (by kernel_rfl) (fun _ _ _ h => h) (Or.inl ⟨by rfl, fun W hW => ?_⟩) (by assumption) ?_
  rotate_left
  · go_simp
    with_reducible rfl
  try simp only [Act.put, lA, l0, lS]
  refine wpAnyH_take (i := 3) (oi := ⟨some 212, .move (.tmp 17), 3, _, _, none⟩) (v := ?vq64) rfl (by kernel_rfl) (by kernel_rfl) (by kernel_rfl) (fun _ _ _ h => h) (Or.inl ⟨by rfl, fun W hW => ?_⟩) (by assumption) ?_
  rotate_left
  · go_simp
    with_reducible rfl
  try simp only [Act.put, lA, l0, lS]
  refine wpAnyH_take (i := 4) (oi := ⟨some 213, .indexAddr 29 (.tmp 211) (.tmp 212), 0, _, _, none⟩) (v := ?vq65) rfl (by kernel_rfl) (by kernel_rfl) (by kernel_rfl) (fun _ _ _ h => h) (Or.inl ⟨by rfl, fun W hW => ?_⟩) (by assumption) ?_
  rotate_left
  · go_simp
    with_reducible rfl
  try simp only [Act.put, lA, l0, lS]
  refine wpAnyH_take (i := 5) (oi := ⟨some 214, .load 9 (.tmp 213), 9, _, _, none⟩) (v := sv ky) rfl (by kernel_rfl) (by kernel_rfl) (by kernel_rfl) (fun _ _ _ h => h) (Or.inl ⟨by rfl, fun W hW => ?_⟩) (by assumption) ?_
  · go_simp
  try simp only [Act.put, lA, l0, lS]
  refine wpAnyH_take (i := 7) (oi := ⟨some 216, .move (.tmp 5), 26, _, _, none⟩) (v := ?vq66) rfl (by kernel_rfl) (by kernel_rfl) (by kernel_rfl) (fun _ _ _ h => h) (Or.inl ⟨by rfl, fun W hW => ?_⟩) (by assumption) ?_
  rotate_left
  · go_simp
    with_reducible rfl
  try simp only [Act.put, lA, l0, lS]
  refine wpAnyH_take (i := 8) (oi := ⟨some 217, .move (.tmp 15), 3, _, _, none⟩) (v := ?vq67) rfl (by kernel_rfl) (by kernel_rfl) (by kernel_rfl) (fun _ _ _ h => h) (Or.inl ⟨by rfl, fun W hW => ?_⟩) (by assumption) ?_
  rotate_left
  · go_simp
    with_reducible rfl
  try simp only [Act.put, lA, l0, lS]
  refine wpAnyH_take (i := 9) (oi := ⟨some 218, .move (.tmp 16), 29, _, _, none⟩) (v := ?vq68) rfl (by kernel_rfl) (by kernel_rfl) (by kernel_rfl) (fun _ _ _ h => h) (Or.inl ⟨by rfl, fun W hW => ?_⟩) (by assumption) ?_
  rotate_left
  · go_simp
    with_reducible rfl
  try simp only [Act.put, lA, l0, lS]
  refine wpAnyH_take (i := 10) (oi := ⟨some 219, .move (.tmp 17), 3, _, _, none⟩) (v := ?vq69) rfl (by kernel_rfl) (by kernel_rfl) (by kernel_rfl) (fun _ _ _ h => h) (Or.inl ⟨by rfl, fun W hW => ?_⟩) (by assumption) ?_
  rotate_left
  · go_simp
    with_reducible rfl
  try simp only [Act.put, lA, l0, lS]
  refine wpAnyH_take (i := 11) (oi := ⟨some 220, .indexAddr 29 (.tmp 218) (.tmp 219), 0, _, _, none⟩) (v := ?vq70) rfl (by kernel_rfl) (by kernel_rfl) (by kernel_rfl) (fun _ _ _ h => h) (Or.inl ⟨by rfl, fun W hW => ?_⟩) (by assumption) ?_
  rotate_left
  · go_simp
    with_reducible rfl
  try simp only [Act.put, lA, l0, lS]
  refine wpAnyH_take (i := 12) (oi := ⟨some 221, .load 9 (.tmp 220), 9, _, _, none⟩) (v := sv ky) rfl (by kernel_rfl) (by kernel_rfl) (by kernel_rfl) (fun _ _ _ h => h) (Or.inl ⟨by rfl, fun W hW => ?_⟩) (by assumption) ?_
  · go_simp
  try simp only [Act.put, lA, l0, lS]
  refine wpAnyH_ready (rs := [6]) (by kernel_rfl) (by simp) ?_
  refine AllReadyH.cons (o := ⟨some 215, .call { callee := .value (.func 31), args := #[.tmp 209, .tmp 210, .tmp 214], argTypes := #[24, 3, 9] }, 9, _, _, none⟩) rfl (fun KK hKK => ?_) AllReadyH.nil
  refine step_callW (by rfl) 31 _ _ rfl #[.pointer (some ⟨c, 0, none⟩), .int .i64 id, sv ky] (by first | (simp [Act.eval]; done) | (simp [Act.eval, Act.put]; done)) (enters_of Tryz.func31 (by kernel_rfl) rfl) (HC.out _ K0) ?_
  rintro e W1 ⟨rfl, k1⟩
  refine ⟨_, rfl, ?_⟩
  have K71 := K0.trans k1 (by simp)
  clear k1
  refine hKK.out _ _ (HS.out _ K71) (fun hHeld => ?_)
  clear hKK KK
  try simp only [Act.put, lA, l0, lS]
  refine wpAnyH_ready (rs := [13]) (by kernel_rfl) (by simp) ?_
  refine AllReadyH.cons (o := ⟨some 222, .call { callee := .value (.func 32), args := #[.tmp 216, .tmp 217, .tmp 221], argTypes := #[26, 3, 9] }, 9, _, _, none⟩) rfl (fun KK hKK => ?_) AllReadyH.nil
  refine step_callW (by rfl) 32 _ _ rfl #[.pointer (some ⟨d, 0, none⟩), .int .i64 id, sv ky] (by first | (simp [Act.eval]; done) | (simp [Act.eval, Act.put]; done)) (enters_of Tryz.func32 (by kernel_rfl) rfl) (HD.out _ K71) ?_
  rintro e W2 ⟨rfl, k1⟩
  refine ⟨_, rfl, ?_⟩
  have K72 := K71.trans k1 (by simp)
  clear k1
  refine hKK.out _ _ (HS.out _ K72) (fun hHeld => ?_)
  clear hKK KK
  try simp only [Act.put, lA, l0, lS]
  refine wpAnyH_take (i := 14) (oi := ⟨some 223, .binOp .neq 9 (.tmp 215) (.tmp 222) 9, 4, _, _, none⟩) (v := .bool false) rfl (by kernel_rfl) (by kernel_rfl) (by kernel_rfl) (fun _ _ _ h => h) (Or.inl ⟨by rfl, fun W hW => ?_⟩) (by assumption) ?_
  · go_simp
  try simp only [Act.put, lA, l0, lS]
  refine wpAnyH_done (by kernel_rfl) ?_ _
  refine NoPanic.normal ?_
  exact hK _ _ _ _ _ _ _ _ _ _ _ _ _ _ _ K72
/-- What Tell asks the reference. -/
structure RAsks (w : World) (d : Nat) (i : Int) (n : List Str) (m : List (Str × Str)) (r : List Rd) (b : Bool) (s : Str → Str) : Prop where
  nm : ∀ W, Keeps [] w W → Calls Tryz.prog 23 #[.pointer (some ⟨d, 0, none⟩), .int .i64 i] W fun e w' => (∃ A cc, e = .returned (.slice A n.length cc) ∧ w'.ownsRow 0 9 1 (.slice A n.length cc) n.length (vs n)) ∧ Keeps [] W w'
  wr : ∀ W, Keeps [] w W → Calls Tryz.prog 26 #[.pointer (some ⟨d, 0, none⟩), .int .i64 i] W fun e w' => (∃ A cc, e = .returned (.slice A m.length cc) ∧ AtP w' A m) ∧ Keeps [] W w'
  rd : ∀ W, Keeps [] w W → Calls Tryz.prog 29 #[.pointer (some ⟨d, 0, none⟩), .int .i64 i] W fun e w' => (∃ A cc, e = .returned (.slice A r.length cc) ∧ RdAt w' (.slice A r.length cc) r) ∧ Keeps [] W w'
  vl : ∀ W, Keeps [] w W → Calls Tryz.prog 15 #[.pointer (some ⟨d, 0, none⟩), .int .i64 i] W fun e w' => e = .returned (.bool b) ∧ Keeps [] W w'
  lg : ∀ W, Keeps [] w W → ∀ k, Calls Tryz.prog 32 #[.pointer (some ⟨d, 0, none⟩), .int .i64 i, sv k] W fun e w' => e = .returned (sv (s k)) ∧ Keeps [] W w'
theorem Rf.asks {w : World} {d : Nat} {F G : List Nat} {C : St} {P : List Str} (h : Rf w d F G C) (hW : WF P C) (hP : PoolOk P) (hl : C.length ≤ 1000000) (i : Int) :
    RAsks w d i (namesP C i) (wrP C i) (rdsP C i) (validP C i) (logsP C i) := by
  have hR0 := hW.tree.row0
  have h1 : ∀ x ∈ C, x.wr.length ≤ 1000000 := fun x hx => hP.leK (hW.ok x hx).wr (hW.ok x hx).wp
  have h2 : ∀ x ∈ C, x.lg.length ≤ 1000000 := fun x hx => hP.leK (hW.ok x hx).lg (hW.ok x hx).lp
  have h3 : ∀ x ∈ C, x.rd.length ≤ 2000000 := fun x hx => rd_le hW hP hx
  refine ⟨fun W k => ?_, fun W k => ?_, fun W k => ?_, fun W k => ?_, fun W k q => ?_⟩
  · refine (rNames_any (h.keep0 k) hR0 hl h2 i).mono ?_
    rintro e w' ⟨⟨v, rfl, o⟩, h2⟩
    obtain ⟨A, cc, rfl, -, -, -⟩ := own_shape o
    exact ⟨⟨A, cc, rfl, o⟩, h2⟩
  · refine (rWrites_any (h.keep0 k) hR0 hl h1 i).mono ?_
    rintro e w' ⟨⟨A, cc, rfl, o⟩, h2⟩
    exact ⟨⟨A, cc, rfl, AtP.of_own o (wrP_len hW hP i)⟩, h2⟩
  · exact rReads_any (h.keep0 k) hR0 hl h3 i
  · exact rValid_any (h.keep0 k) hW hP hl i
  · refine (rLogs_any (h.keep0 k) hR0 hl h2 i q).mono ?_
    rintro e w' ⟨rfl, rfl⟩
    exact ⟨rfl, Keeps.refl _ _⟩
end Go.Proofs.YtbllmpcpfmlemaaGreat
