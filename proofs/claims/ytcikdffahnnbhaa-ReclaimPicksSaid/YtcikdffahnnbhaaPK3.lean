/- One statement of ReclaimPicks: the test behind a Pick. -/
import Derived.Test.YtcikdffahnnbhaaPK1
import Derived.Test.YtcikdffahnnbhaaC1
namespace Go.Proofs.Ytcikdffahnnbhaa
open Go.RowKit

set_option maxHeartbeats 800000 in
theorem workq_any (w : World) (F : List Nat) (p : Nat) (s : Ck) (o : Int) (h : CkRep w F p s) (h1 : -9223372036854775808 ≤ o) (h2 : o ≤ 9223372036854775807) :
    Calls Try.prog 16 #[.pointer (some ⟨p, 0, none⟩), .int .i64 o] w fun e w' => e = .returned (.int .i64 (max (s.nw o) (s.bf o))) ∧ ∃ m, w' = w.drewN m := by
  obtain ⟨g, cap, bu, bn, bb, h⟩ := h
  have c3 := h.e3
  have c4 := h.e4
  have q1 := h.mn.drew.look h1 h2 Try.underlying43
  have q2 := h.mb.drew.look h1 h2 Try.underlying43
  clear h
  go_enter Try.func16, Try.ntmps16
  go_wp2_with fail
  go_region
  all_goals go_wp2
  all_goals
    go_ret
    exact ⟨ret_int (by omega), 1, rfl⟩
def theRegion (k : Nat) : Code → Option Code
  | .region id ops d => if id == k then some (.region id ops d) else none
  | .seq a b => match theRegion k a with
    | some c => some c
    | none => theRegion k b
  | .cond _ a b => match theRegion k a with
    | some c => some c
    | none => theRegion k b
  | .block _ c => theRegion k c
  | .loop c => theRegion k c
  | .scope c => theRegion k c
  | _ => none
noncomputable def reg40 : Code := ((Try.f5.body.bind (theRegion 40)).getD .skip)

set_option maxRecDepth 1000000 in
set_option maxHeartbeats 6400000 in
theorem reg40_0 (w : World) (n f p p' gb : Nat) (F F' : List Nat) (s : Ck) (mk : Nat → Bool) (K : Exit → Act → World → Prop) (hn : 1 ≤ n) (hn2 : n ≤ 40) (hf : f < n)
    (r7 : CkRep w F p s.picked) (r8 : CkRep w F' p' s) (b7 : Bools w gb n mk) (ho1 : -9223372036854775808 ≤ (s.g f).o) (ho2 : (s.g f).o ≤ 9223372036854775807) (f7 : s.picked.h = (f + 1) % n)
    (e1 : mk f = false) (e3 : s.over (s.g f).o = true) (u1 u2 u3 u4 u5 u8 u9 u10 u11 u12 u13 u14 u17 u18 u19 u20 u23 u26 u27 u28 u29 u30 u31 u32 u33 u34 u35 u36 u37 u38 u39 u40 u41 u42 u43 u44 u45 u46 u47 u48 u49 u50 u51 u52 u53 u54 u55 u56 u57 u58 u59 u60 u61 u62 u63 u64 u65 u66 u67 u68 u69 u70 u71 u72 u73 u74 u75 u76 u77 u78 u79 u80 u81 u82 u83 u84 u85 u86 u87 u88 u89 u90 u91 u92 u93 u94 u95 u96 u97 u98 u99 u100 u101 u102 u103 u104 u105 u106 u107 u108 u109 u110 u111 u112 u113 u114 u115 u116 u117 u118 u119 u120 u121 u122 u123 u124 u125 u126 u127 u128 u129 u130 u131 u132 u133 u134 u135 u136 u137 u138 u139 u140 u141 u142 u143 u144 u145 u146 u147 u148 u149 u150 u151 u152 u153 u154 u155 u156 u157 u158 u159 u160 u161 u162 u163 u164 u165 u166 u167 u168 u169 u170 u171 u172 u173 u174 u175 u176 u177 u178 u179 u180 u181 u182 u183 u184 u185 u186 u187 u188 u189 u190 u191 u192 u193 u194 u195 u196 u197 u198 u199 u200 u201 u202 u203 u204 u205 u206 u207 u208 u209 u210 u211 u212 u213 u214 u215 u216 u217 u218 u219 u220 u221 u222 u223 u224 u225 u226 u227 u228 u229 u230 u231 u232 u233 u234 u235 u236 u237 u238 u239 u240 u241 u242 u243 u244 u245 u246 u247 u248 u249 u250 u251 u252 u253 : Value)
    (hK : ∀ (v186 v187 v188 v189 v190 v191 v192 v193 v194 v195 v196 v197 v198 v199 v200 v201 v202 v203 v204 v205 v206 v207 v208 v209 v210 v211 v212 v213 v214 v215 v216 : Value) (nq : Nat) (b : Value), b = .bool false → K .normal ⟨#[.int .i64 n, u1, u2, u3, u4, u5, .pointer (some ⟨p, 0, none⟩), .slice (some ⟨gb, 0, none⟩) n n, u8, u9, u10, u11, u12, u13, u14, .bool true, .bool true, u17, u18, u19, u20, .pointer (some ⟨p', 0, none⟩), .int .i64 f, u23, .int .i64 (s.g f).o, .bool true, u26, u27, u28, u29, u30, u31, u32, u33, u34, u35, u36, u37, u38, u39, u40, u41, u42, u43, u44, u45, u46, u47, u48, u49, u50, u51, u52, u53, u54, u55, u56, u57, u58, u59, u60, u61, u62, u63, u64, u65, u66, u67, u68, u69, u70, u71, u72, u73, u74, u75, u76, u77, u78, u79, u80, u81, u82, u83, u84, u85, u86, u87, u88, u89, u90, u91, u92, u93, u94, u95, u96, u97, u98, u99, u100, u101, u102, u103, u104, u105, u106, u107, u108, u109, u110, u111, u112, u113, u114, u115, u116, u117, u118, u119, u120, u121, u122, u123, u124, u125, u126, u127, u128, u129, u130, u131, u132, u133, u134, u135, u136, u137, u138, u139, u140, u141, u142, u143, u144, u145, u146, u147, u148, u149, u150, u151, u152, u153, u154, u155, u156, u157, u158, u159, u160, u161, u162, u163, u164, u165, u166, u167, u168, u169, u170, u171, u172, u173, u174, u175, u176, u177, u178, u179, u180, u181, u182, u183, u184, u185, v186, v187, v188, v189, v190, v191, v192, v193, v194, v195, v196, v197, v198, v199, v200, v201, v202, v203, v204, v205, v206, v207, v208, v209, v210, v211, v212, v213, v214, v215, v216, b, u218, u219, u220, u221, u222, u223, u224, u225, u226, u227, u228, u229, u230, u231, u232, u233, u234, u235, u236, u237, u238, u239, u240, u241, u242, u243, u244, u245, u246, u247, u248, u249, u250, u251, u252, u253], []⟩ (w.drewN nq)) :
    Code.wp Try.prog reg40 K ⟨#[.int .i64 n, u1, u2, u3, u4, u5, .pointer (some ⟨p, 0, none⟩), .slice (some ⟨gb, 0, none⟩) n n, u8, u9, u10, u11, u12, u13, u14, .bool true, .bool true, u17, u18, u19, u20, .pointer (some ⟨p', 0, none⟩), .int .i64 f, u23, .int .i64 (s.g f).o, .bool true, u26, u27, u28, u29, u30, u31, u32, u33, u34, u35, u36, u37, u38, u39, u40, u41, u42, u43, u44, u45, u46, u47, u48, u49, u50, u51, u52, u53, u54, u55, u56, u57, u58, u59, u60, u61, u62, u63, u64, u65, u66, u67, u68, u69, u70, u71, u72, u73, u74, u75, u76, u77, u78, u79, u80, u81, u82, u83, u84, u85, u86, u87, u88, u89, u90, u91, u92, u93, u94, u95, u96, u97, u98, u99, u100, u101, u102, u103, u104, u105, u106, u107, u108, u109, u110, u111, u112, u113, u114, u115, u116, u117, u118, u119, u120, u121, u122, u123, u124, u125, u126, u127, u128, u129, u130, u131, u132, u133, u134, u135, u136, u137, u138, u139, u140, u141, u142, u143, u144, u145, u146, u147, u148, u149, u150, u151, u152, u153, u154, u155, u156, u157, u158, u159, u160, u161, u162, u163, u164, u165, u166, u167, u168, u169, u170, u171, u172, u173, u174, u175, u176, u177, u178, u179, u180, u181, u182, u183, u184, u185, u186, u187, u188, u189, u190, u191, u192, u193, u194, u195, u196, u197, u198, u199, u200, u201, u202, u203, u204, u205, u206, u207, u208, u209, u210, u211, u212, u213, u214, u215, u216, u217, u218, u219, u220, u221, u222, u223, u224, u225, u226, u227, u228, u229, u230, u231, u232, u233, u234, u235, u236, u237, u238, u239, u240, u241, u242, u243, u244, u245, u246, u247, u248, u249, u250, u251, u252, u253], []⟩ w := by
  have c0 := b7.cell hf
  have nz : (n : Int) ≠ 0 := by omega
  have nz2 : n ≠ 0 := by omega
  have t3 : Int.tmod ((f : Int) + 1) n = ((f + 1) % n : Nat) := by rw [Int.tmod_eq_emod_of_nonneg (by omega), Int.natCast_emod, Int.natCast_add]; rfl
  have hwr : IntKind.i64.wrap ((f : Int) + 1) = f + 1 := by rw [IntKind.wrap_i64]; omega
  have t4 : ((((f + 1) % n : Nat) : Int) != (((f + 1) % n : Nat) : Int)) = false := by simp
  have j1 : (0 : Int) ≤ f := by omega
  have j2 : (f : Int) < n := by omega
  rw [e1] at c0
  have e3 : decide (s.us (s.g f).o ≤ max (s.nw (s.g f).o) (s.bf (s.g f).o)) = false := by
    unfold Ck.over at e3
    simp at e3 ⊢
    omega
  conv => arg 2; whnf
  dsimp only at hK ⊢
  go_quiet (first
    | (go_at_call 15; refine (used_any _ F' p' s (s.g f).o (r8.keep ((Keeps.refl [] w).drewN _) (by simp)) ho1 ho2).mono ?_; rintro e w10 ⟨h1, h2⟩; exact ⟨h1, _, h2.symm⟩)
    | (go_at_call 16; refine (workq_any _ F' p' s (s.g f).o (r8.keep ((Keeps.refl [] w).drewN _) (by simp)) ho1 ho2).mono ?_; rintro e w10 ⟨h1, m, h2⟩; exact ⟨h1, _, h2.trans (World.drewN_drewN _ _ _)⟩)
    | (go_at_call 17; refine (hand_any _ F p s.picked (r7.keep ((Keeps.refl [] w).drewN _) (by simp))).mono ?_; rw [f7]; rintro e w10 ⟨h1, h2⟩; exact ⟨h1, _, h2.symm⟩))
  exact hK _ _ _ _ _ _ _ _ _ _ _ _ _ _ _ _ _ _ _ _ _ _ _ _ _ _ _ _ _ _ _ nq _ (by first | rfl | (rw [hwr, t3]; simp; done) | (simp [hwr, t3]; done))
set_option maxRecDepth 1000000 in
set_option maxHeartbeats 6400000 in
theorem reg40_1 (w : World) (n f p p' gb : Nat) (F F' : List Nat) (s : Ck) (mk : Nat → Bool) (K : Exit → Act → World → Prop) (hn : 1 ≤ n) (hn2 : n ≤ 40) (hf : f < n)
    (r7 : CkRep w F p s.picked) (r8 : CkRep w F' p' s) (b7 : Bools w gb n mk) (ho1 : -9223372036854775808 ≤ (s.g f).o) (ho2 : (s.g f).o ≤ 9223372036854775807) (f7 : s.picked.h = (f + 1) % n)
    (e1 : mk f = false) (u1 u2 u3 u4 u5 u8 u9 u10 u11 u12 u13 u14 u17 u18 u19 u20 u23 u26 u27 u28 u29 u30 u31 u32 u33 u34 u35 u36 u37 u38 u39 u40 u41 u42 u43 u44 u45 u46 u47 u48 u49 u50 u51 u52 u53 u54 u55 u56 u57 u58 u59 u60 u61 u62 u63 u64 u65 u66 u67 u68 u69 u70 u71 u72 u73 u74 u75 u76 u77 u78 u79 u80 u81 u82 u83 u84 u85 u86 u87 u88 u89 u90 u91 u92 u93 u94 u95 u96 u97 u98 u99 u100 u101 u102 u103 u104 u105 u106 u107 u108 u109 u110 u111 u112 u113 u114 u115 u116 u117 u118 u119 u120 u121 u122 u123 u124 u125 u126 u127 u128 u129 u130 u131 u132 u133 u134 u135 u136 u137 u138 u139 u140 u141 u142 u143 u144 u145 u146 u147 u148 u149 u150 u151 u152 u153 u154 u155 u156 u157 u158 u159 u160 u161 u162 u163 u164 u165 u166 u167 u168 u169 u170 u171 u172 u173 u174 u175 u176 u177 u178 u179 u180 u181 u182 u183 u184 u185 u186 u187 u188 u189 u190 u191 u192 u193 u194 u195 u196 u197 u198 u199 u200 u201 u202 u203 u204 u205 u206 u207 u208 u209 u210 u211 u212 u213 u214 u215 u216 u217 u218 u219 u220 u221 u222 u223 u224 u225 u226 u227 u228 u229 u230 u231 u232 u233 u234 u235 u236 u237 u238 u239 u240 u241 u242 u243 u244 u245 u246 u247 u248 u249 u250 u251 u252 u253 : Value)
    (hK : ∀ (v186 v187 v188 v189 v190 v191 v192 v193 v194 v195 v196 v197 v198 v199 v200 v201 v202 v203 v204 v205 v206 v207 v208 v209 v210 v211 v212 v213 v214 v215 v216 : Value) (nq : Nat) (b : Value), b = .bool false → K .normal ⟨#[.int .i64 n, u1, u2, u3, u4, u5, .pointer (some ⟨p, 0, none⟩), .slice (some ⟨gb, 0, none⟩) n n, u8, u9, u10, u11, u12, u13, u14, .bool true, .bool false, u17, u18, u19, u20, .pointer (some ⟨p', 0, none⟩), .int .i64 f, u23, .int .i64 (s.g f).o, .bool true, u26, u27, u28, u29, u30, u31, u32, u33, u34, u35, u36, u37, u38, u39, u40, u41, u42, u43, u44, u45, u46, u47, u48, u49, u50, u51, u52, u53, u54, u55, u56, u57, u58, u59, u60, u61, u62, u63, u64, u65, u66, u67, u68, u69, u70, u71, u72, u73, u74, u75, u76, u77, u78, u79, u80, u81, u82, u83, u84, u85, u86, u87, u88, u89, u90, u91, u92, u93, u94, u95, u96, u97, u98, u99, u100, u101, u102, u103, u104, u105, u106, u107, u108, u109, u110, u111, u112, u113, u114, u115, u116, u117, u118, u119, u120, u121, u122, u123, u124, u125, u126, u127, u128, u129, u130, u131, u132, u133, u134, u135, u136, u137, u138, u139, u140, u141, u142, u143, u144, u145, u146, u147, u148, u149, u150, u151, u152, u153, u154, u155, u156, u157, u158, u159, u160, u161, u162, u163, u164, u165, u166, u167, u168, u169, u170, u171, u172, u173, u174, u175, u176, u177, u178, u179, u180, u181, u182, u183, u184, u185, v186, v187, v188, v189, v190, v191, v192, v193, v194, v195, v196, v197, v198, v199, v200, v201, v202, v203, v204, v205, v206, v207, v208, v209, v210, v211, v212, v213, v214, v215, v216, b, u218, u219, u220, u221, u222, u223, u224, u225, u226, u227, u228, u229, u230, u231, u232, u233, u234, u235, u236, u237, u238, u239, u240, u241, u242, u243, u244, u245, u246, u247, u248, u249, u250, u251, u252, u253], []⟩ (w.drewN nq)) :
    Code.wp Try.prog reg40 K ⟨#[.int .i64 n, u1, u2, u3, u4, u5, .pointer (some ⟨p, 0, none⟩), .slice (some ⟨gb, 0, none⟩) n n, u8, u9, u10, u11, u12, u13, u14, .bool true, .bool false, u17, u18, u19, u20, .pointer (some ⟨p', 0, none⟩), .int .i64 f, u23, .int .i64 (s.g f).o, .bool true, u26, u27, u28, u29, u30, u31, u32, u33, u34, u35, u36, u37, u38, u39, u40, u41, u42, u43, u44, u45, u46, u47, u48, u49, u50, u51, u52, u53, u54, u55, u56, u57, u58, u59, u60, u61, u62, u63, u64, u65, u66, u67, u68, u69, u70, u71, u72, u73, u74, u75, u76, u77, u78, u79, u80, u81, u82, u83, u84, u85, u86, u87, u88, u89, u90, u91, u92, u93, u94, u95, u96, u97, u98, u99, u100, u101, u102, u103, u104, u105, u106, u107, u108, u109, u110, u111, u112, u113, u114, u115, u116, u117, u118, u119, u120, u121, u122, u123, u124, u125, u126, u127, u128, u129, u130, u131, u132, u133, u134, u135, u136, u137, u138, u139, u140, u141, u142, u143, u144, u145, u146, u147, u148, u149, u150, u151, u152, u153, u154, u155, u156, u157, u158, u159, u160, u161, u162, u163, u164, u165, u166, u167, u168, u169, u170, u171, u172, u173, u174, u175, u176, u177, u178, u179, u180, u181, u182, u183, u184, u185, u186, u187, u188, u189, u190, u191, u192, u193, u194, u195, u196, u197, u198, u199, u200, u201, u202, u203, u204, u205, u206, u207, u208, u209, u210, u211, u212, u213, u214, u215, u216, u217, u218, u219, u220, u221, u222, u223, u224, u225, u226, u227, u228, u229, u230, u231, u232, u233, u234, u235, u236, u237, u238, u239, u240, u241, u242, u243, u244, u245, u246, u247, u248, u249, u250, u251, u252, u253], []⟩ w := by
  have c0 := b7.cell hf
  have nz : (n : Int) ≠ 0 := by omega
  have nz2 : n ≠ 0 := by omega
  have t3 : Int.tmod ((f : Int) + 1) n = ((f + 1) % n : Nat) := by rw [Int.tmod_eq_emod_of_nonneg (by omega), Int.natCast_emod, Int.natCast_add]; rfl
  have hwr : IntKind.i64.wrap ((f : Int) + 1) = f + 1 := by rw [IntKind.wrap_i64]; omega
  have t4 : ((((f + 1) % n : Nat) : Int) != (((f + 1) % n : Nat) : Int)) = false := by simp
  have j1 : (0 : Int) ≤ f := by omega
  have j2 : (f : Int) < n := by omega
  rw [e1] at c0
  have hun := And.intro r8 (And.intro ho1 ho2)
  clear hun
  conv => arg 2; whnf
  dsimp only at hK ⊢
  go_quiet (first
    | (go_at_call 15; refine (used_any _ F' p' s (s.g f).o (r8.keep ((Keeps.refl [] w).drewN _) (by simp)) ho1 ho2).mono ?_; rintro e w10 ⟨h1, h2⟩; exact ⟨h1, _, h2.symm⟩)
    | (go_at_call 16; refine (workq_any _ F' p' s (s.g f).o (r8.keep ((Keeps.refl [] w).drewN _) (by simp)) ho1 ho2).mono ?_; rintro e w10 ⟨h1, m, h2⟩; exact ⟨h1, _, h2.trans (World.drewN_drewN _ _ _)⟩)
    | (go_at_call 17; refine (hand_any _ F p s.picked (r7.keep ((Keeps.refl [] w).drewN _) (by simp))).mono ?_; rw [f7]; rintro e w10 ⟨h1, h2⟩; exact ⟨h1, _, h2.symm⟩))
  exact hK _ _ _ _ _ _ _ _ _ _ _ _ _ _ _ _ _ _ _ _ _ _ _ _ _ _ _ _ _ _ _ nq _ (by first | rfl | (rw [hwr, t3]; simp; done) | (simp [hwr, t3]; done))
set_option maxRecDepth 1000000 in
set_option maxHeartbeats 6400000 in
theorem reg40_2 (w : World) (n f p p' gb : Nat) (F F' : List Nat) (s : Ck) (mk : Nat → Bool) (K : Exit → Act → World → Prop) (hn : 1 ≤ n) (hn2 : n ≤ 40) (hf : f < n)
    (r7 : CkRep w F p s.picked) (r8 : CkRep w F' p' s) (b7 : Bools w gb n mk) (ho1 : -9223372036854775808 ≤ (s.g f).o) (ho2 : (s.g f).o ≤ 9223372036854775807) (f7 : s.picked.h = (f + 1) % n)
    (e3 : s.over (s.g f).o = true) (u1 u2 u3 u4 u5 u8 u9 u10 u11 u12 u13 u14 u17 u18 u19 u20 u23 u26 u27 u28 u29 u30 u31 u32 u33 u34 u35 u36 u37 u38 u39 u40 u41 u42 u43 u44 u45 u46 u47 u48 u49 u50 u51 u52 u53 u54 u55 u56 u57 u58 u59 u60 u61 u62 u63 u64 u65 u66 u67 u68 u69 u70 u71 u72 u73 u74 u75 u76 u77 u78 u79 u80 u81 u82 u83 u84 u85 u86 u87 u88 u89 u90 u91 u92 u93 u94 u95 u96 u97 u98 u99 u100 u101 u102 u103 u104 u105 u106 u107 u108 u109 u110 u111 u112 u113 u114 u115 u116 u117 u118 u119 u120 u121 u122 u123 u124 u125 u126 u127 u128 u129 u130 u131 u132 u133 u134 u135 u136 u137 u138 u139 u140 u141 u142 u143 u144 u145 u146 u147 u148 u149 u150 u151 u152 u153 u154 u155 u156 u157 u158 u159 u160 u161 u162 u163 u164 u165 u166 u167 u168 u169 u170 u171 u172 u173 u174 u175 u176 u177 u178 u179 u180 u181 u182 u183 u184 u185 u186 u187 u188 u189 u190 u191 u192 u193 u194 u195 u196 u197 u198 u199 u200 u201 u202 u203 u204 u205 u206 u207 u208 u209 u210 u211 u212 u213 u214 u215 u216 u217 u218 u219 u220 u221 u222 u223 u224 u225 u226 u227 u228 u229 u230 u231 u232 u233 u234 u235 u236 u237 u238 u239 u240 u241 u242 u243 u244 u245 u246 u247 u248 u249 u250 u251 u252 u253 : Value)
    (hK : ∀ (v186 v187 v188 v189 v190 v191 v192 v193 v194 v195 v196 v197 v198 v199 v200 v201 v202 v203 v204 v205 v206 v207 v208 v209 v210 v211 v212 v213 v214 v215 v216 : Value) (nq : Nat) (b : Value), b = .bool false → K .normal ⟨#[.int .i64 n, u1, u2, u3, u4, u5, .pointer (some ⟨p, 0, none⟩), .slice (some ⟨gb, 0, none⟩) n n, u8, u9, u10, u11, u12, u13, u14, .bool false, .bool true, u17, u18, u19, u20, .pointer (some ⟨p', 0, none⟩), .int .i64 f, u23, .int .i64 (s.g f).o, .bool true, u26, u27, u28, u29, u30, u31, u32, u33, u34, u35, u36, u37, u38, u39, u40, u41, u42, u43, u44, u45, u46, u47, u48, u49, u50, u51, u52, u53, u54, u55, u56, u57, u58, u59, u60, u61, u62, u63, u64, u65, u66, u67, u68, u69, u70, u71, u72, u73, u74, u75, u76, u77, u78, u79, u80, u81, u82, u83, u84, u85, u86, u87, u88, u89, u90, u91, u92, u93, u94, u95, u96, u97, u98, u99, u100, u101, u102, u103, u104, u105, u106, u107, u108, u109, u110, u111, u112, u113, u114, u115, u116, u117, u118, u119, u120, u121, u122, u123, u124, u125, u126, u127, u128, u129, u130, u131, u132, u133, u134, u135, u136, u137, u138, u139, u140, u141, u142, u143, u144, u145, u146, u147, u148, u149, u150, u151, u152, u153, u154, u155, u156, u157, u158, u159, u160, u161, u162, u163, u164, u165, u166, u167, u168, u169, u170, u171, u172, u173, u174, u175, u176, u177, u178, u179, u180, u181, u182, u183, u184, u185, v186, v187, v188, v189, v190, v191, v192, v193, v194, v195, v196, v197, v198, v199, v200, v201, v202, v203, v204, v205, v206, v207, v208, v209, v210, v211, v212, v213, v214, v215, v216, b, u218, u219, u220, u221, u222, u223, u224, u225, u226, u227, u228, u229, u230, u231, u232, u233, u234, u235, u236, u237, u238, u239, u240, u241, u242, u243, u244, u245, u246, u247, u248, u249, u250, u251, u252, u253], []⟩ (w.drewN nq)) :
    Code.wp Try.prog reg40 K ⟨#[.int .i64 n, u1, u2, u3, u4, u5, .pointer (some ⟨p, 0, none⟩), .slice (some ⟨gb, 0, none⟩) n n, u8, u9, u10, u11, u12, u13, u14, .bool false, .bool true, u17, u18, u19, u20, .pointer (some ⟨p', 0, none⟩), .int .i64 f, u23, .int .i64 (s.g f).o, .bool true, u26, u27, u28, u29, u30, u31, u32, u33, u34, u35, u36, u37, u38, u39, u40, u41, u42, u43, u44, u45, u46, u47, u48, u49, u50, u51, u52, u53, u54, u55, u56, u57, u58, u59, u60, u61, u62, u63, u64, u65, u66, u67, u68, u69, u70, u71, u72, u73, u74, u75, u76, u77, u78, u79, u80, u81, u82, u83, u84, u85, u86, u87, u88, u89, u90, u91, u92, u93, u94, u95, u96, u97, u98, u99, u100, u101, u102, u103, u104, u105, u106, u107, u108, u109, u110, u111, u112, u113, u114, u115, u116, u117, u118, u119, u120, u121, u122, u123, u124, u125, u126, u127, u128, u129, u130, u131, u132, u133, u134, u135, u136, u137, u138, u139, u140, u141, u142, u143, u144, u145, u146, u147, u148, u149, u150, u151, u152, u153, u154, u155, u156, u157, u158, u159, u160, u161, u162, u163, u164, u165, u166, u167, u168, u169, u170, u171, u172, u173, u174, u175, u176, u177, u178, u179, u180, u181, u182, u183, u184, u185, u186, u187, u188, u189, u190, u191, u192, u193, u194, u195, u196, u197, u198, u199, u200, u201, u202, u203, u204, u205, u206, u207, u208, u209, u210, u211, u212, u213, u214, u215, u216, u217, u218, u219, u220, u221, u222, u223, u224, u225, u226, u227, u228, u229, u230, u231, u232, u233, u234, u235, u236, u237, u238, u239, u240, u241, u242, u243, u244, u245, u246, u247, u248, u249, u250, u251, u252, u253], []⟩ w := by
  have c0 := b7.cell hf
  have nz : (n : Int) ≠ 0 := by omega
  have nz2 : n ≠ 0 := by omega
  have t3 : Int.tmod ((f : Int) + 1) n = ((f + 1) % n : Nat) := by rw [Int.tmod_eq_emod_of_nonneg (by omega), Int.natCast_emod, Int.natCast_add]; rfl
  have hwr : IntKind.i64.wrap ((f : Int) + 1) = f + 1 := by rw [IntKind.wrap_i64]; omega
  have t4 : ((((f + 1) % n : Nat) : Int) != (((f + 1) % n : Nat) : Int)) = false := by simp
  have j1 : (0 : Int) ≤ f := by omega
  have j2 : (f : Int) < n := by omega
  have e3 : decide (s.us (s.g f).o ≤ max (s.nw (s.g f).o) (s.bf (s.g f).o)) = false := by
    unfold Ck.over at e3
    simp at e3 ⊢
    omega
  conv => arg 2; whnf
  dsimp only at hK ⊢
  go_quiet (first
    | (go_at_call 15; refine (used_any _ F' p' s (s.g f).o (r8.keep ((Keeps.refl [] w).drewN _) (by simp)) ho1 ho2).mono ?_; rintro e w10 ⟨h1, h2⟩; exact ⟨h1, _, h2.symm⟩)
    | (go_at_call 16; refine (workq_any _ F' p' s (s.g f).o (r8.keep ((Keeps.refl [] w).drewN _) (by simp)) ho1 ho2).mono ?_; rintro e w10 ⟨h1, m, h2⟩; exact ⟨h1, _, h2.trans (World.drewN_drewN _ _ _)⟩)
    | (go_at_call 17; refine (hand_any _ F p s.picked (r7.keep ((Keeps.refl [] w).drewN _) (by simp))).mono ?_; rw [f7]; rintro e w10 ⟨h1, h2⟩; exact ⟨h1, _, h2.symm⟩))
  exact hK _ _ _ _ _ _ _ _ _ _ _ _ _ _ _ _ _ _ _ _ _ _ _ _ _ _ _ _ _ _ _ nq _ (by first | rfl | (rw [hwr, t3]; simp; done) | (simp [hwr, t3]; done))
set_option maxRecDepth 1000000 in
set_option maxHeartbeats 6400000 in
theorem reg40_3 (w : World) (n f p p' gb : Nat) (F F' : List Nat) (s : Ck) (mk : Nat → Bool) (K : Exit → Act → World → Prop) (hn : 1 ≤ n) (hn2 : n ≤ 40) (hf : f < n)
    (r7 : CkRep w F p s.picked) (r8 : CkRep w F' p' s) (b7 : Bools w gb n mk) (ho1 : -9223372036854775808 ≤ (s.g f).o) (ho2 : (s.g f).o ≤ 9223372036854775807) (f7 : s.picked.h = (f + 1) % n)
    (u1 u2 u3 u4 u5 u8 u9 u10 u11 u12 u13 u14 u17 u18 u19 u20 u23 u26 u27 u28 u29 u30 u31 u32 u33 u34 u35 u36 u37 u38 u39 u40 u41 u42 u43 u44 u45 u46 u47 u48 u49 u50 u51 u52 u53 u54 u55 u56 u57 u58 u59 u60 u61 u62 u63 u64 u65 u66 u67 u68 u69 u70 u71 u72 u73 u74 u75 u76 u77 u78 u79 u80 u81 u82 u83 u84 u85 u86 u87 u88 u89 u90 u91 u92 u93 u94 u95 u96 u97 u98 u99 u100 u101 u102 u103 u104 u105 u106 u107 u108 u109 u110 u111 u112 u113 u114 u115 u116 u117 u118 u119 u120 u121 u122 u123 u124 u125 u126 u127 u128 u129 u130 u131 u132 u133 u134 u135 u136 u137 u138 u139 u140 u141 u142 u143 u144 u145 u146 u147 u148 u149 u150 u151 u152 u153 u154 u155 u156 u157 u158 u159 u160 u161 u162 u163 u164 u165 u166 u167 u168 u169 u170 u171 u172 u173 u174 u175 u176 u177 u178 u179 u180 u181 u182 u183 u184 u185 u186 u187 u188 u189 u190 u191 u192 u193 u194 u195 u196 u197 u198 u199 u200 u201 u202 u203 u204 u205 u206 u207 u208 u209 u210 u211 u212 u213 u214 u215 u216 u217 u218 u219 u220 u221 u222 u223 u224 u225 u226 u227 u228 u229 u230 u231 u232 u233 u234 u235 u236 u237 u238 u239 u240 u241 u242 u243 u244 u245 u246 u247 u248 u249 u250 u251 u252 u253 : Value)
    (hK : ∀ (v186 v187 v188 v189 v190 v191 v192 v193 v194 v195 v196 v197 v198 v199 v200 v201 v202 v203 v204 v205 v206 v207 v208 v209 v210 v211 v212 v213 v214 v215 v216 : Value) (nq : Nat) (b : Value), b = .bool false → K .normal ⟨#[.int .i64 n, u1, u2, u3, u4, u5, .pointer (some ⟨p, 0, none⟩), .slice (some ⟨gb, 0, none⟩) n n, u8, u9, u10, u11, u12, u13, u14, .bool false, .bool false, u17, u18, u19, u20, .pointer (some ⟨p', 0, none⟩), .int .i64 f, u23, .int .i64 (s.g f).o, .bool true, u26, u27, u28, u29, u30, u31, u32, u33, u34, u35, u36, u37, u38, u39, u40, u41, u42, u43, u44, u45, u46, u47, u48, u49, u50, u51, u52, u53, u54, u55, u56, u57, u58, u59, u60, u61, u62, u63, u64, u65, u66, u67, u68, u69, u70, u71, u72, u73, u74, u75, u76, u77, u78, u79, u80, u81, u82, u83, u84, u85, u86, u87, u88, u89, u90, u91, u92, u93, u94, u95, u96, u97, u98, u99, u100, u101, u102, u103, u104, u105, u106, u107, u108, u109, u110, u111, u112, u113, u114, u115, u116, u117, u118, u119, u120, u121, u122, u123, u124, u125, u126, u127, u128, u129, u130, u131, u132, u133, u134, u135, u136, u137, u138, u139, u140, u141, u142, u143, u144, u145, u146, u147, u148, u149, u150, u151, u152, u153, u154, u155, u156, u157, u158, u159, u160, u161, u162, u163, u164, u165, u166, u167, u168, u169, u170, u171, u172, u173, u174, u175, u176, u177, u178, u179, u180, u181, u182, u183, u184, u185, v186, v187, v188, v189, v190, v191, v192, v193, v194, v195, v196, v197, v198, v199, v200, v201, v202, v203, v204, v205, v206, v207, v208, v209, v210, v211, v212, v213, v214, v215, v216, b, u218, u219, u220, u221, u222, u223, u224, u225, u226, u227, u228, u229, u230, u231, u232, u233, u234, u235, u236, u237, u238, u239, u240, u241, u242, u243, u244, u245, u246, u247, u248, u249, u250, u251, u252, u253], []⟩ (w.drewN nq)) :
    Code.wp Try.prog reg40 K ⟨#[.int .i64 n, u1, u2, u3, u4, u5, .pointer (some ⟨p, 0, none⟩), .slice (some ⟨gb, 0, none⟩) n n, u8, u9, u10, u11, u12, u13, u14, .bool false, .bool false, u17, u18, u19, u20, .pointer (some ⟨p', 0, none⟩), .int .i64 f, u23, .int .i64 (s.g f).o, .bool true, u26, u27, u28, u29, u30, u31, u32, u33, u34, u35, u36, u37, u38, u39, u40, u41, u42, u43, u44, u45, u46, u47, u48, u49, u50, u51, u52, u53, u54, u55, u56, u57, u58, u59, u60, u61, u62, u63, u64, u65, u66, u67, u68, u69, u70, u71, u72, u73, u74, u75, u76, u77, u78, u79, u80, u81, u82, u83, u84, u85, u86, u87, u88, u89, u90, u91, u92, u93, u94, u95, u96, u97, u98, u99, u100, u101, u102, u103, u104, u105, u106, u107, u108, u109, u110, u111, u112, u113, u114, u115, u116, u117, u118, u119, u120, u121, u122, u123, u124, u125, u126, u127, u128, u129, u130, u131, u132, u133, u134, u135, u136, u137, u138, u139, u140, u141, u142, u143, u144, u145, u146, u147, u148, u149, u150, u151, u152, u153, u154, u155, u156, u157, u158, u159, u160, u161, u162, u163, u164, u165, u166, u167, u168, u169, u170, u171, u172, u173, u174, u175, u176, u177, u178, u179, u180, u181, u182, u183, u184, u185, u186, u187, u188, u189, u190, u191, u192, u193, u194, u195, u196, u197, u198, u199, u200, u201, u202, u203, u204, u205, u206, u207, u208, u209, u210, u211, u212, u213, u214, u215, u216, u217, u218, u219, u220, u221, u222, u223, u224, u225, u226, u227, u228, u229, u230, u231, u232, u233, u234, u235, u236, u237, u238, u239, u240, u241, u242, u243, u244, u245, u246, u247, u248, u249, u250, u251, u252, u253], []⟩ w := by
  have c0 := b7.cell hf
  have nz : (n : Int) ≠ 0 := by omega
  have nz2 : n ≠ 0 := by omega
  have t3 : Int.tmod ((f : Int) + 1) n = ((f + 1) % n : Nat) := by rw [Int.tmod_eq_emod_of_nonneg (by omega), Int.natCast_emod, Int.natCast_add]; rfl
  have hwr : IntKind.i64.wrap ((f : Int) + 1) = f + 1 := by rw [IntKind.wrap_i64]; omega
  have t4 : ((((f + 1) % n : Nat) : Int) != (((f + 1) % n : Nat) : Int)) = false := by simp
  have j1 : (0 : Int) ≤ f := by omega
  have j2 : (f : Int) < n := by omega
  have hun := And.intro r8 (And.intro ho1 ho2)
  clear hun
  conv => arg 2; whnf
  dsimp only at hK ⊢
  go_quiet (first
    | (go_at_call 15; refine (used_any _ F' p' s (s.g f).o (r8.keep ((Keeps.refl [] w).drewN _) (by simp)) ho1 ho2).mono ?_; rintro e w10 ⟨h1, h2⟩; exact ⟨h1, _, h2.symm⟩)
    | (go_at_call 16; refine (workq_any _ F' p' s (s.g f).o (r8.keep ((Keeps.refl [] w).drewN _) (by simp)) ho1 ho2).mono ?_; rintro e w10 ⟨h1, m, h2⟩; exact ⟨h1, _, h2.trans (World.drewN_drewN _ _ _)⟩)
    | (go_at_call 17; refine (hand_any _ F p s.picked (r7.keep ((Keeps.refl [] w).drewN _) (by simp))).mono ?_; rw [f7]; rintro e w10 ⟨h1, h2⟩; exact ⟨h1, _, h2.symm⟩))
  exact hK _ _ _ _ _ _ _ _ _ _ _ _ _ _ _ _ _ _ _ _ _ _ _ _ _ _ _ _ _ _ _ nq _ (by first | rfl | (rw [hwr, t3]; simp; done) | (simp [hwr, t3]; done))

end Go.Proofs.Ytcikdffahnnbhaa
