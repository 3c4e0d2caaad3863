/- The reference's count: its drawn statements (printed by n3gen.py). -/
import Derived.Test.YtcopjjokhjealaaGreatN2
import Derived.StillTailTactics
import Derived.Deep.QuietTactic
import Derived.BigQuiet
namespace Go.Proofs.YtcopjjokhjealaaGreat
open Go.RowKit

noncomputable def cq2C : Code := ((Tryz.f57.body.bind (theRegion 2)).getD .skip)
set_option maxRecDepth 1000000 in
set_option maxHeartbeats 3200000 in
theorem cq2_end (w : World) (q bc k c : Nat) (A : Option Addr) (K : Exit → Act → World → Prop) (hc : w.cell? ⟨q, 2, none⟩ = some (.slice A k c)) (b : Bool) (hb : b = false)
    (u1 u2 u5 u6 u7 u8 u9 u10 u11 u12 u13 u14 u15 u16 u17 u18 u19 u20 u21 u22 u23 u24 u25 u26 u27 u28 u29 u30 u31 u32 u33 u34 u35 u36 u37 u38 u39 u40 u41 u42 u43 u44 u45 u46 u47 u48 u49 u50 u51 u52 u53 u54 u55 u56 u57 u58 u59 u60 u61 u62 u63 u64 u65 u66 u67 u68 u69 u70 u71 u72 u73 u74 u75 u76 u77 u78 u79 u80 u81 u82 u83 u84 u85 u86 u87 u88 u89 u90 u91 u92 u93 u94 u95 u96 u97 u98 u99 u100 u101 u102 u103 u104 u105 u106 u107 u108 u109 u110 u111 u112 u113 u114 u115 u116 u117 u118 u119 u120 u121 u122 u123 u124 u125 u126 u127 u128 u129 u130 u131 u132 u133 u134 u135 u136 u137 u138 u139 u140 u141 u142 u143 u144 u145 u146 u147 u148 u149 u150 u151 u152 u153 u154 u155 u156 u157 u158 u159 u160 : Value)
    (hK : ∀ (v6 v7 v8 v9 v10 v11 v12 v13 v14 v15 v16 v17 v18 v19 v20 v21 v22 v23 v24 v25 v26 v27 v28 v29 v30 v31 v32 v33 v34 v35 v36 v37 v38 v39 v40 v41 v42 v43 v44 v45 v46 v47 v48 v49 v50 : Value) (nq : Nat), K .normal ⟨#[.pointer (some ⟨q, 0, none⟩), u1, u2, .pointer (some ⟨bc, 0, none⟩), .int .i64 k, u5, v6, v7, v8, v9, v10, v11, v12, v13, v14, v15, v16, v17, v18, v19, v20, v21, v22, v23, v24, v25, v26, v27, v28, v29, v30, v31, v32, v33, v34, v35, v36, v37, v38, v39, v40, v41, v42, v43, v44, v45, v46, v47, v48, v49, v50, .bool b, u52, u53, u54, u55, u56, u57, u58, u59, u60, u61, u62, u63, u64, u65, u66, u67, u68, u69, u70, u71, u72, u73, u74, u75, u76, u77, u78, u79, u80, u81, u82, u83, u84, u85, u86, u87, u88, u89, u90, u91, u92, u93, u94, u95, u96, u97, u98, u99, u100, u101, u102, u103, u104, u105, u106, u107, u108, u109, u110, u111, u112, u113, u114, u115, u116, u117, u118, u119, u120, u121, u122, u123, u124, u125, u126, u127, u128, u129, u130, u131, u132, u133, u134, u135, u136, u137, u138, u139, u140, u141, u142, u143, u144, u145, u146, u147, u148, u149, u150, u151, u152, u153, u154, u155, u156, u157, u158, u159, u160], []⟩ (w.drewN nq)) :
    Code.wp Tryz.prog cq2C K ⟨#[.pointer (some ⟨q, 0, none⟩), u1, u2, .pointer (some ⟨bc, 0, none⟩), .int .i64 k, u5, u6, u7, u8, u9, u10, u11, u12, u13, u14, u15, u16, u17, u18, u19, u20, u21, u22, u23, u24, u25, u26, u27, u28, u29, u30, u31, u32, u33, u34, u35, u36, u37, u38, u39, u40, u41, u42, u43, u44, u45, u46, u47, u48, u49, u50, u51, u52, u53, u54, u55, u56, u57, u58, u59, u60, u61, u62, u63, u64, u65, u66, u67, u68, u69, u70, u71, u72, u73, u74, u75, u76, u77, u78, u79, u80, u81, u82, u83, u84, u85, u86, u87, u88, u89, u90, u91, u92, u93, u94, u95, u96, u97, u98, u99, u100, u101, u102, u103, u104, u105, u106, u107, u108, u109, u110, u111, u112, u113, u114, u115, u116, u117, u118, u119, u120, u121, u122, u123, u124, u125, u126, u127, u128, u129, u130, u131, u132, u133, u134, u135, u136, u137, u138, u139, u140, u141, u142, u143, u144, u145, u146, u147, u148, u149, u150, u151, u152, u153, u154, u155, u156, u157, u158, u159, u160], []⟩ w := by
  subst hb
  conv => arg 2; whnf
  dsimp only at hK ⊢
  go_quiet (fail)
  exact hK _ _ _ _ _ _ _ _ _ _ _ _ _ _ _ _ _ _ _ _ _ _ _ _ _ _ _ _ _ _ _ _ _ _ _ _ _ _ _ _ _ _ _ _ _ nq
set_option maxRecDepth 1000000 in
set_option maxHeartbeats 3200000 in
theorem cq2_any (w : World) (q bc k n c g : Nat) (x a : Ct) (K : Exit → Act → World → Prop) (hk : k < n) (hc : w.cell? ⟨q, 2, none⟩ = some (.slice (some ⟨g, 0, none⟩) n c))
    (c0 : w.cell? ⟨g, k * 7, none⟩ = some (.int .i64 x.l)) (c1 : w.cell? ⟨g, k * 7 + 1, none⟩ = some (.int .i64 x.i)) (B : Blk w bc 84 #[.int .i64 a.l, .int .i64 a.i, .int .i64 a.runs, .int .i64 a.com, .int .i64 a.con, .int .i64 a.drp, .int .i64 a.str])
    (b : Bool) (hb : (decide (x.l < a.l) || (decide (x.l = a.l) && decide (x.i < a.i))) = b)
    (u1 u2 u5 u6 u7 u8 u9 u10 u11 u12 u13 u14 u15 u16 u17 u18 u19 u20 u21 u22 u23 u24 u25 u26 u27 u28 u29 u30 u31 u32 u33 u34 u35 u36 u37 u38 u39 u40 u41 u42 u43 u44 u45 u46 u47 u48 u49 u50 u51 u52 u53 u54 u55 u56 u57 u58 u59 u60 u61 u62 u63 u64 u65 u66 u67 u68 u69 u70 u71 u72 u73 u74 u75 u76 u77 u78 u79 u80 u81 u82 u83 u84 u85 u86 u87 u88 u89 u90 u91 u92 u93 u94 u95 u96 u97 u98 u99 u100 u101 u102 u103 u104 u105 u106 u107 u108 u109 u110 u111 u112 u113 u114 u115 u116 u117 u118 u119 u120 u121 u122 u123 u124 u125 u126 u127 u128 u129 u130 u131 u132 u133 u134 u135 u136 u137 u138 u139 u140 u141 u142 u143 u144 u145 u146 u147 u148 u149 u150 u151 u152 u153 u154 u155 u156 u157 u158 u159 u160 : Value)
    (hK : ∀ (v6 v7 v8 v9 v10 v11 v12 v13 v14 v15 v16 v17 v18 v19 v20 v21 v22 v23 v24 v25 v26 v27 v28 v29 v30 v31 v32 v33 v34 v35 v36 v37 v38 v39 v40 v41 v42 v43 v44 v45 v46 v47 v48 v49 v50 : Value) (nq : Nat), K .normal ⟨#[.pointer (some ⟨q, 0, none⟩), u1, u2, .pointer (some ⟨bc, 0, none⟩), .int .i64 k, u5, v6, v7, v8, v9, v10, v11, v12, v13, v14, v15, v16, v17, v18, v19, v20, v21, v22, v23, v24, v25, v26, v27, v28, v29, v30, v31, v32, v33, v34, v35, v36, v37, v38, v39, v40, v41, v42, v43, v44, v45, v46, v47, v48, v49, v50, .bool b, u52, u53, u54, u55, u56, u57, u58, u59, u60, u61, u62, u63, u64, u65, u66, u67, u68, u69, u70, u71, u72, u73, u74, u75, u76, u77, u78, u79, u80, u81, u82, u83, u84, u85, u86, u87, u88, u89, u90, u91, u92, u93, u94, u95, u96, u97, u98, u99, u100, u101, u102, u103, u104, u105, u106, u107, u108, u109, u110, u111, u112, u113, u114, u115, u116, u117, u118, u119, u120, u121, u122, u123, u124, u125, u126, u127, u128, u129, u130, u131, u132, u133, u134, u135, u136, u137, u138, u139, u140, u141, u142, u143, u144, u145, u146, u147, u148, u149, u150, u151, u152, u153, u154, u155, u156, u157, u158, u159, u160], []⟩ (w.drewN nq)) :
    Code.wp Tryz.prog cq2C K ⟨#[.pointer (some ⟨q, 0, none⟩), u1, u2, .pointer (some ⟨bc, 0, none⟩), .int .i64 k, u5, u6, u7, u8, u9, u10, u11, u12, u13, u14, u15, u16, u17, u18, u19, u20, u21, u22, u23, u24, u25, u26, u27, u28, u29, u30, u31, u32, u33, u34, u35, u36, u37, u38, u39, u40, u41, u42, u43, u44, u45, u46, u47, u48, u49, u50, u51, u52, u53, u54, u55, u56, u57, u58, u59, u60, u61, u62, u63, u64, u65, u66, u67, u68, u69, u70, u71, u72, u73, u74, u75, u76, u77, u78, u79, u80, u81, u82, u83, u84, u85, u86, u87, u88, u89, u90, u91, u92, u93, u94, u95, u96, u97, u98, u99, u100, u101, u102, u103, u104, u105, u106, u107, u108, u109, u110, u111, u112, u113, u114, u115, u116, u117, u118, u119, u120, u121, u122, u123, u124, u125, u126, u127, u128, u129, u130, u131, u132, u133, u134, u135, u136, u137, u138, u139, u140, u141, u142, u143, u144, u145, u146, u147, u148, u149, u150, u151, u152, u153, u154, u155, u156, u157, u158, u159, u160], []⟩ w := by
  have x0 := B.cell 0
  have x1 := B.cell 1
  have j1 : (0 : Int) ≤ k := by omega
  have j2 : (k : Int) < n := by omega
  have HH := Lib.hid hb
  clear hb B hk
  conv => arg 2; whnf
  dsimp only at hK ⊢
  obtain ⟨xl, hxl⟩ : ∃ y, x.l = y := ⟨_, rfl⟩
  obtain ⟨xi, hxi⟩ : ∃ y, x.i = y := ⟨_, rfl⟩
  obtain ⟨al, hal⟩ : ∃ y, a.l = y := ⟨_, rfl⟩
  obtain ⟨ai, hai⟩ : ∃ y, a.i = y := ⟨_, rfl⟩
  rw [hxl] at c0 HH
  rw [hxi] at c1 HH
  rw [hal] at x0 HH
  rw [hai] at x1 HH
  clear hxl hxi hal hai
  by_cases e1 : xl < al
  · obtain rfl : true = b := by rw [← HH.out]; simp [e1]
    clear HH
    go_quiet (fail)
    exact hK _ _ _ _ _ _ _ _ _ _ _ _ _ _ _ _ _ _ _ _ _ _ _ _ _ _ _ _ _ _ _ _ _ _ _ _ _ _ _ _ _ _ _ _ _ nq
  by_cases e2 : xl = al
  · subst e2
    by_cases e3 : xi < ai
    · obtain rfl : true = b := by rw [← HH.out]; simp [e3]
      clear HH
      go_quiet (fail)
      exact hK _ _ _ _ _ _ _ _ _ _ _ _ _ _ _ _ _ _ _ _ _ _ _ _ _ _ _ _ _ _ _ _ _ _ _ _ _ _ _ _ _ _ _ _ _ nq
    · obtain rfl : false = b := by rw [← HH.out]; simp [e3]
      clear HH
      go_quiet (fail)
      exact hK _ _ _ _ _ _ _ _ _ _ _ _ _ _ _ _ _ _ _ _ _ _ _ _ _ _ _ _ _ _ _ _ _ _ _ _ _ _ _ _ _ _ _ _ _ nq
  · obtain rfl : false = b := by rw [← HH.out]; simp [e1, e2]
    clear HH
    go_quiet (fail)
    exact hK _ _ _ _ _ _ _ _ _ _ _ _ _ _ _ _ _ _ _ _ _ _ _ _ _ _ _ _ _ _ _ _ _ _ _ _ _ _ _ _ _ _ _ _ _ nq
noncomputable def cq6C : Code := ((Tryz.f57.body.bind (theRegion 6)).getD .skip)
set_option maxRecDepth 1000000 in
set_option maxHeartbeats 3200000 in
theorem cq6_any (w : World) (bc k n c g : Nat) (x a : Ct) (K : Exit → Act → World → Prop) (hk : k < n)
    (c0 : w.cell? ⟨g, k * 7, none⟩ = some (.int .i64 x.l)) (c1 : w.cell? ⟨g, k * 7 + 1, none⟩ = some (.int .i64 x.i)) (B : Blk w bc 84 #[.int .i64 a.l, .int .i64 a.i, .int .i64 a.runs, .int .i64 a.com, .int .i64 a.con, .int .i64 a.drp, .int .i64 a.str])
    (b : Bool) (hb : (decide (x.l = a.l) && decide (x.i = a.i)) = b)
    (u0 u1 u2 u6 u7 u8 u9 u10 u11 u12 u13 u14 u15 u16 u17 u18 u19 u20 u21 u22 u23 u24 u25 u26 u27 u28 u29 u30 u31 u32 u33 u34 u35 u36 u37 u38 u39 u40 u41 u42 u43 u44 u45 u46 u47 u48 u49 u50 u51 u52 u53 u54 u55 u56 u57 u58 u59 u60 u61 u62 u63 u64 u65 u66 u67 u68 u69 u70 u71 u72 u73 u74 u75 u76 u77 u78 u79 u80 u81 u82 u83 u84 u85 u86 u87 u88 u89 u90 u91 u92 u93 u94 u95 u96 u97 u98 u99 u100 u101 u102 u103 u104 u105 u106 u107 u108 u109 u110 u111 u112 u113 u114 u115 u116 u117 u118 u119 u120 u121 u122 u123 u124 u125 u126 u127 u128 u129 u130 u131 u132 u133 u134 u135 u136 u137 u138 u139 u140 u141 u142 u143 u144 u145 u146 u147 u148 u149 u150 u151 u152 u153 u154 u155 u156 u157 u158 u159 u160 : Value)
    (hK : ∀ (v64 v65 v66 v67 v68 v69 v70 v71 v72 v73 v74 v75 v76 v77 v78 v79 v80 : Value) (nq : Nat) (b0 : Value), b0 = .bool b → K .normal ⟨#[u0, u1, u2, .pointer (some ⟨bc, 0, none⟩), .int .i64 k, .slice (some ⟨g, 0, none⟩) n c, u6, u7, u8, u9, u10, u11, u12, u13, u14, u15, u16, u17, u18, u19, u20, u21, u22, u23, u24, u25, u26, u27, u28, u29, u30, u31, u32, u33, u34, u35, u36, u37, u38, u39, u40, u41, u42, u43, u44, u45, u46, u47, u48, u49, u50, u51, u52, u53, u54, u55, u56, u57, u58, u59, u60, u61, u62, u63, v64, v65, v66, v67, v68, v69, v70, v71, v72, v73, v74, v75, v76, v77, v78, v79, v80, b0, u82, u83, u84, u85, u86, u87, u88, u89, u90, u91, u92, u93, u94, u95, u96, u97, u98, u99, u100, u101, u102, u103, u104, u105, u106, u107, u108, u109, u110, u111, u112, u113, u114, u115, u116, u117, u118, u119, u120, u121, u122, u123, u124, u125, u126, u127, u128, u129, u130, u131, u132, u133, u134, u135, u136, u137, u138, u139, u140, u141, u142, u143, u144, u145, u146, u147, u148, u149, u150, u151, u152, u153, u154, u155, u156, u157, u158, u159, u160], []⟩ (w.drewN nq)) :
    Code.wp Tryz.prog cq6C K ⟨#[u0, u1, u2, .pointer (some ⟨bc, 0, none⟩), .int .i64 k, .slice (some ⟨g, 0, none⟩) n c, u6, u7, u8, u9, u10, u11, u12, u13, u14, u15, u16, u17, u18, u19, u20, u21, u22, u23, u24, u25, u26, u27, u28, u29, u30, u31, u32, u33, u34, u35, u36, u37, u38, u39, u40, u41, u42, u43, u44, u45, u46, u47, u48, u49, u50, u51, u52, u53, u54, u55, u56, u57, u58, u59, u60, u61, u62, u63, u64, u65, u66, u67, u68, u69, u70, u71, u72, u73, u74, u75, u76, u77, u78, u79, u80, u81, u82, u83, u84, u85, u86, u87, u88, u89, u90, u91, u92, u93, u94, u95, u96, u97, u98, u99, u100, u101, u102, u103, u104, u105, u106, u107, u108, u109, u110, u111, u112, u113, u114, u115, u116, u117, u118, u119, u120, u121, u122, u123, u124, u125, u126, u127, u128, u129, u130, u131, u132, u133, u134, u135, u136, u137, u138, u139, u140, u141, u142, u143, u144, u145, u146, u147, u148, u149, u150, u151, u152, u153, u154, u155, u156, u157, u158, u159, u160], []⟩ w := by
  have x0 := B.cell 0
  have x1 := B.cell 1
  have j1 : (0 : Int) ≤ k := by omega
  have j2 : (k : Int) < n := by omega
  have HH := Lib.hid hb
  clear hb B hk
  conv => arg 2; whnf
  dsimp only at hK ⊢
  obtain ⟨xl, hxl⟩ : ∃ y, x.l = y := ⟨_, rfl⟩
  obtain ⟨xi, hxi⟩ : ∃ y, x.i = y := ⟨_, rfl⟩
  obtain ⟨al, hal⟩ : ∃ y, a.l = y := ⟨_, rfl⟩
  obtain ⟨ai, hai⟩ : ∃ y, a.i = y := ⟨_, rfl⟩
  rw [hxl] at c0 HH
  rw [hxi] at c1 HH
  rw [hal] at x0 HH
  rw [hai] at x1 HH
  clear hxl hxi hal hai
  by_cases e1 : xl = al
  · subst e1
    by_cases e3 : xi = ai
    · subst e3
      obtain rfl : true = b := by rw [← HH.out]; simp
      clear HH
      go_quiet (fail)
      exact hK _ _ _ _ _ _ _ _ _ _ _ _ _ _ _ _ _ nq _ (by first | rfl | (simp; done))
    · obtain rfl : false = b := by rw [← HH.out]; simp [e3]
      clear HH
      go_quiet (fail)
      exact hK _ _ _ _ _ _ _ _ _ _ _ _ _ _ _ _ _ nq _ (by first | rfl | (simp [e3]; done))
  · obtain rfl : false = b := by rw [← HH.out]; simp [e1]
    clear HH
    go_quiet (fail)
    exact hK _ _ _ _ _ _ _ _ _ _ _ _ _ _ _ _ _ nq _ (by first | rfl | (simp; done))
noncomputable def cq7C : Code := ((Tryz.f57.body.bind (theRegion 7)).getD .skip)
set_option maxRecDepth 1000000 in
set_option maxHeartbeats 3200000 in
theorem cq7_any (w : World) (bc k n c g : Nat) (y z : Int) (K : Exit → Act → World → Prop) (hk : k < n)
    (c0 : w.cell? ⟨g, k * 7 + 2, none⟩ = some (.int .i64 y)) (f0 : w.frozen? ⟨g, k * 7 + 2, none⟩ = false) (x0 : w.cell? ⟨bc, 2, none⟩ = some (.int .i64 z)) (hw : IntKind.i64.wrap (y + z) = y + z)
    (u0 u1 u2 u6 u7 u8 u9 u10 u11 u12 u13 u14 u15 u16 u17 u18 u19 u20 u21 u22 u23 u24 u25 u26 u27 u28 u29 u30 u31 u32 u33 u34 u35 u36 u37 u38 u39 u40 u41 u42 u43 u44 u45 u46 u47 u48 u49 u50 u51 u52 u53 u54 u55 u56 u57 u58 u59 u60 u61 u62 u63 u64 u65 u66 u67 u68 u69 u70 u71 u72 u73 u74 u75 u76 u77 u78 u79 u80 u81 u82 u83 u84 u85 u86 u87 u88 u89 u90 u91 u92 u93 u94 u95 u96 u97 u98 u99 u100 u101 u102 u103 u104 u105 u106 u107 u108 u109 u110 u111 u112 u113 u114 u115 u116 u117 u118 u119 u120 u121 u122 u123 u124 u125 u126 u127 u128 u129 u130 u131 u132 u133 u134 u135 u136 u137 u138 u139 u140 u141 u142 u143 u144 u145 u146 u147 u148 u149 u150 u151 u152 u153 u154 u155 u156 u157 u158 u159 u160 : Value)
    (hK : ∀ (v82 v83 v84 v85 v86 v87 v88 v89 v90 v91 v92 v93 : Value), K .normal ⟨#[u0, u1, u2, .pointer (some ⟨bc, 0, none⟩), .int .i64 k, .slice (some ⟨g, 0, none⟩) n c, u6, u7, u8, u9, u10, u11, u12, u13, u14, u15, u16, u17, u18, u19, u20, u21, u22, u23, u24, u25, u26, u27, u28, u29, u30, u31, u32, u33, u34, u35, u36, u37, u38, u39, u40, u41, u42, u43, u44, u45, u46, u47, u48, u49, u50, u51, u52, u53, u54, u55, u56, u57, u58, u59, u60, u61, u62, u63, u64, u65, u66, u67, u68, u69, u70, u71, u72, u73, u74, u75, u76, u77, u78, u79, u80, u81, v82, v83, v84, v85, v86, v87, v88, v89, v90, v91, v92, v93, u94, u95, u96, u97, u98, u99, u100, u101, u102, u103, u104, u105, u106, u107, u108, u109, u110, u111, u112, u113, u114, u115, u116, u117, u118, u119, u120, u121, u122, u123, u124, u125, u126, u127, u128, u129, u130, u131, u132, u133, u134, u135, u136, u137, u138, u139, u140, u141, u142, u143, u144, u145, u146, u147, u148, u149, u150, u151, u152, u153, u154, u155, u156, u157, u158, u159, u160], []⟩ (w.setCell ⟨g, k * 7 + 2, none⟩ (.int .i64 (y + z))).drew) :
    Code.wp Tryz.prog cq7C K ⟨#[u0, u1, u2, .pointer (some ⟨bc, 0, none⟩), .int .i64 k, .slice (some ⟨g, 0, none⟩) n c, u6, u7, u8, u9, u10, u11, u12, u13, u14, u15, u16, u17, u18, u19, u20, u21, u22, u23, u24, u25, u26, u27, u28, u29, u30, u31, u32, u33, u34, u35, u36, u37, u38, u39, u40, u41, u42, u43, u44, u45, u46, u47, u48, u49, u50, u51, u52, u53, u54, u55, u56, u57, u58, u59, u60, u61, u62, u63, u64, u65, u66, u67, u68, u69, u70, u71, u72, u73, u74, u75, u76, u77, u78, u79, u80, u81, u82, u83, u84, u85, u86, u87, u88, u89, u90, u91, u92, u93, u94, u95, u96, u97, u98, u99, u100, u101, u102, u103, u104, u105, u106, u107, u108, u109, u110, u111, u112, u113, u114, u115, u116, u117, u118, u119, u120, u121, u122, u123, u124, u125, u126, u127, u128, u129, u130, u131, u132, u133, u134, u135, u136, u137, u138, u139, u140, u141, u142, u143, u144, u145, u146, u147, u148, u149, u150, u151, u152, u153, u154, u155, u156, u157, u158, u159, u160], []⟩ w := by
  have j1 : (0 : Int) ≤ k := by omega
  have j2 : (k : Int) < n := by omega
  clear hk
  conv => arg 2; whnf
  dsimp only at hK ⊢
  go_still_tail 12, (by kernel_rfl)
  change wpList _ _ _ _ _ w.drew
  go_wp2_with fail
  exact hK _ _ _ _ _ _ _ _ _ _ _ _
noncomputable def cq8C : Code := ((Tryz.f57.body.bind (theRegion 8)).getD .skip)
set_option maxRecDepth 1000000 in
set_option maxHeartbeats 3200000 in
theorem cq8_any (w : World) (bc k n c g : Nat) (y z : Int) (K : Exit → Act → World → Prop) (hk : k < n)
    (c0 : w.cell? ⟨g, k * 7 + 3, none⟩ = some (.int .i64 y)) (f0 : w.frozen? ⟨g, k * 7 + 3, none⟩ = false) (x0 : w.cell? ⟨bc, 3, none⟩ = some (.int .i64 z)) (hw : IntKind.i64.wrap (y + z) = y + z)
    (u0 u1 u2 u6 u7 u8 u9 u10 u11 u12 u13 u14 u15 u16 u17 u18 u19 u20 u21 u22 u23 u24 u25 u26 u27 u28 u29 u30 u31 u32 u33 u34 u35 u36 u37 u38 u39 u40 u41 u42 u43 u44 u45 u46 u47 u48 u49 u50 u51 u52 u53 u54 u55 u56 u57 u58 u59 u60 u61 u62 u63 u64 u65 u66 u67 u68 u69 u70 u71 u72 u73 u74 u75 u76 u77 u78 u79 u80 u81 u82 u83 u84 u85 u86 u87 u88 u89 u90 u91 u92 u93 u94 u95 u96 u97 u98 u99 u100 u101 u102 u103 u104 u105 u106 u107 u108 u109 u110 u111 u112 u113 u114 u115 u116 u117 u118 u119 u120 u121 u122 u123 u124 u125 u126 u127 u128 u129 u130 u131 u132 u133 u134 u135 u136 u137 u138 u139 u140 u141 u142 u143 u144 u145 u146 u147 u148 u149 u150 u151 u152 u153 u154 u155 u156 u157 u158 u159 u160 : Value)
    (hK : ∀ (v94 v95 v96 v97 v98 v99 v100 v101 v102 v103 v104 v105 : Value), K .normal ⟨#[u0, u1, u2, .pointer (some ⟨bc, 0, none⟩), .int .i64 k, .slice (some ⟨g, 0, none⟩) n c, u6, u7, u8, u9, u10, u11, u12, u13, u14, u15, u16, u17, u18, u19, u20, u21, u22, u23, u24, u25, u26, u27, u28, u29, u30, u31, u32, u33, u34, u35, u36, u37, u38, u39, u40, u41, u42, u43, u44, u45, u46, u47, u48, u49, u50, u51, u52, u53, u54, u55, u56, u57, u58, u59, u60, u61, u62, u63, u64, u65, u66, u67, u68, u69, u70, u71, u72, u73, u74, u75, u76, u77, u78, u79, u80, u81, u82, u83, u84, u85, u86, u87, u88, u89, u90, u91, u92, u93, v94, v95, v96, v97, v98, v99, v100, v101, v102, v103, v104, v105, u106, u107, u108, u109, u110, u111, u112, u113, u114, u115, u116, u117, u118, u119, u120, u121, u122, u123, u124, u125, u126, u127, u128, u129, u130, u131, u132, u133, u134, u135, u136, u137, u138, u139, u140, u141, u142, u143, u144, u145, u146, u147, u148, u149, u150, u151, u152, u153, u154, u155, u156, u157, u158, u159, u160], []⟩ (w.setCell ⟨g, k * 7 + 3, none⟩ (.int .i64 (y + z))).drew) :
    Code.wp Tryz.prog cq8C K ⟨#[u0, u1, u2, .pointer (some ⟨bc, 0, none⟩), .int .i64 k, .slice (some ⟨g, 0, none⟩) n c, u6, u7, u8, u9, u10, u11, u12, u13, u14, u15, u16, u17, u18, u19, u20, u21, u22, u23, u24, u25, u26, u27, u28, u29, u30, u31, u32, u33, u34, u35, u36, u37, u38, u39, u40, u41, u42, u43, u44, u45, u46, u47, u48, u49, u50, u51, u52, u53, u54, u55, u56, u57, u58, u59, u60, u61, u62, u63, u64, u65, u66, u67, u68, u69, u70, u71, u72, u73, u74, u75, u76, u77, u78, u79, u80, u81, u82, u83, u84, u85, u86, u87, u88, u89, u90, u91, u92, u93, u94, u95, u96, u97, u98, u99, u100, u101, u102, u103, u104, u105, u106, u107, u108, u109, u110, u111, u112, u113, u114, u115, u116, u117, u118, u119, u120, u121, u122, u123, u124, u125, u126, u127, u128, u129, u130, u131, u132, u133, u134, u135, u136, u137, u138, u139, u140, u141, u142, u143, u144, u145, u146, u147, u148, u149, u150, u151, u152, u153, u154, u155, u156, u157, u158, u159, u160], []⟩ w := by
  have j1 : (0 : Int) ≤ k := by omega
  have j2 : (k : Int) < n := by omega
  clear hk
  conv => arg 2; whnf
  dsimp only at hK ⊢
  go_still_tail 12, (by kernel_rfl)
  change wpList _ _ _ _ _ w.drew
  go_wp2_with fail
  exact hK _ _ _ _ _ _ _ _ _ _ _ _
noncomputable def cq9C : Code := ((Tryz.f57.body.bind (theRegion 9)).getD .skip)
set_option maxRecDepth 1000000 in
set_option maxHeartbeats 3200000 in
theorem cq9_any (w : World) (bc k n c g : Nat) (y z : Int) (K : Exit → Act → World → Prop) (hk : k < n)
    (c0 : w.cell? ⟨g, k * 7 + 4, none⟩ = some (.int .i64 y)) (f0 : w.frozen? ⟨g, k * 7 + 4, none⟩ = false) (x0 : w.cell? ⟨bc, 4, none⟩ = some (.int .i64 z)) (hw : IntKind.i64.wrap (y + z) = y + z)
    (u0 u1 u2 u6 u7 u8 u9 u10 u11 u12 u13 u14 u15 u16 u17 u18 u19 u20 u21 u22 u23 u24 u25 u26 u27 u28 u29 u30 u31 u32 u33 u34 u35 u36 u37 u38 u39 u40 u41 u42 u43 u44 u45 u46 u47 u48 u49 u50 u51 u52 u53 u54 u55 u56 u57 u58 u59 u60 u61 u62 u63 u64 u65 u66 u67 u68 u69 u70 u71 u72 u73 u74 u75 u76 u77 u78 u79 u80 u81 u82 u83 u84 u85 u86 u87 u88 u89 u90 u91 u92 u93 u94 u95 u96 u97 u98 u99 u100 u101 u102 u103 u104 u105 u106 u107 u108 u109 u110 u111 u112 u113 u114 u115 u116 u117 u118 u119 u120 u121 u122 u123 u124 u125 u126 u127 u128 u129 u130 u131 u132 u133 u134 u135 u136 u137 u138 u139 u140 u141 u142 u143 u144 u145 u146 u147 u148 u149 u150 u151 u152 u153 u154 u155 u156 u157 u158 u159 u160 : Value)
    (hK : ∀ (v106 v107 v108 v109 v110 v111 v112 v113 v114 v115 v116 v117 : Value), K .normal ⟨#[u0, u1, u2, .pointer (some ⟨bc, 0, none⟩), .int .i64 k, .slice (some ⟨g, 0, none⟩) n c, u6, u7, u8, u9, u10, u11, u12, u13, u14, u15, u16, u17, u18, u19, u20, u21, u22, u23, u24, u25, u26, u27, u28, u29, u30, u31, u32, u33, u34, u35, u36, u37, u38, u39, u40, u41, u42, u43, u44, u45, u46, u47, u48, u49, u50, u51, u52, u53, u54, u55, u56, u57, u58, u59, u60, u61, u62, u63, u64, u65, u66, u67, u68, u69, u70, u71, u72, u73, u74, u75, u76, u77, u78, u79, u80, u81, u82, u83, u84, u85, u86, u87, u88, u89, u90, u91, u92, u93, u94, u95, u96, u97, u98, u99, u100, u101, u102, u103, u104, u105, v106, v107, v108, v109, v110, v111, v112, v113, v114, v115, v116, v117, u118, u119, u120, u121, u122, u123, u124, u125, u126, u127, u128, u129, u130, u131, u132, u133, u134, u135, u136, u137, u138, u139, u140, u141, u142, u143, u144, u145, u146, u147, u148, u149, u150, u151, u152, u153, u154, u155, u156, u157, u158, u159, u160], []⟩ (w.setCell ⟨g, k * 7 + 4, none⟩ (.int .i64 (y + z))).drew) :
    Code.wp Tryz.prog cq9C K ⟨#[u0, u1, u2, .pointer (some ⟨bc, 0, none⟩), .int .i64 k, .slice (some ⟨g, 0, none⟩) n c, u6, u7, u8, u9, u10, u11, u12, u13, u14, u15, u16, u17, u18, u19, u20, u21, u22, u23, u24, u25, u26, u27, u28, u29, u30, u31, u32, u33, u34, u35, u36, u37, u38, u39, u40, u41, u42, u43, u44, u45, u46, u47, u48, u49, u50, u51, u52, u53, u54, u55, u56, u57, u58, u59, u60, u61, u62, u63, u64, u65, u66, u67, u68, u69, u70, u71, u72, u73, u74, u75, u76, u77, u78, u79, u80, u81, u82, u83, u84, u85, u86, u87, u88, u89, u90, u91, u92, u93, u94, u95, u96, u97, u98, u99, u100, u101, u102, u103, u104, u105, u106, u107, u108, u109, u110, u111, u112, u113, u114, u115, u116, u117, u118, u119, u120, u121, u122, u123, u124, u125, u126, u127, u128, u129, u130, u131, u132, u133, u134, u135, u136, u137, u138, u139, u140, u141, u142, u143, u144, u145, u146, u147, u148, u149, u150, u151, u152, u153, u154, u155, u156, u157, u158, u159, u160], []⟩ w := by
  have j1 : (0 : Int) ≤ k := by omega
  have j2 : (k : Int) < n := by omega
  clear hk
  conv => arg 2; whnf
  dsimp only at hK ⊢
  go_still_tail 12, (by kernel_rfl)
  change wpList _ _ _ _ _ w.drew
  go_wp2_with fail
  exact hK _ _ _ _ _ _ _ _ _ _ _ _
noncomputable def cq10C : Code := ((Tryz.f57.body.bind (theRegion 10)).getD .skip)
set_option maxRecDepth 1000000 in
set_option maxHeartbeats 3200000 in
theorem cq10_any (w : World) (bc k n c g : Nat) (y z : Int) (K : Exit → Act → World → Prop) (hk : k < n)
    (c0 : w.cell? ⟨g, k * 7 + 5, none⟩ = some (.int .i64 y)) (f0 : w.frozen? ⟨g, k * 7 + 5, none⟩ = false) (x0 : w.cell? ⟨bc, 5, none⟩ = some (.int .i64 z)) (hw : IntKind.i64.wrap (y + z) = y + z)
    (u0 u1 u2 u6 u7 u8 u9 u10 u11 u12 u13 u14 u15 u16 u17 u18 u19 u20 u21 u22 u23 u24 u25 u26 u27 u28 u29 u30 u31 u32 u33 u34 u35 u36 u37 u38 u39 u40 u41 u42 u43 u44 u45 u46 u47 u48 u49 u50 u51 u52 u53 u54 u55 u56 u57 u58 u59 u60 u61 u62 u63 u64 u65 u66 u67 u68 u69 u70 u71 u72 u73 u74 u75 u76 u77 u78 u79 u80 u81 u82 u83 u84 u85 u86 u87 u88 u89 u90 u91 u92 u93 u94 u95 u96 u97 u98 u99 u100 u101 u102 u103 u104 u105 u106 u107 u108 u109 u110 u111 u112 u113 u114 u115 u116 u117 u118 u119 u120 u121 u122 u123 u124 u125 u126 u127 u128 u129 u130 u131 u132 u133 u134 u135 u136 u137 u138 u139 u140 u141 u142 u143 u144 u145 u146 u147 u148 u149 u150 u151 u152 u153 u154 u155 u156 u157 u158 u159 u160 : Value)
    (hK : ∀ (v118 v119 v120 v121 v122 v123 v124 v125 v126 v127 v128 v129 : Value), K .normal ⟨#[u0, u1, u2, .pointer (some ⟨bc, 0, none⟩), .int .i64 k, .slice (some ⟨g, 0, none⟩) n c, u6, u7, u8, u9, u10, u11, u12, u13, u14, u15, u16, u17, u18, u19, u20, u21, u22, u23, u24, u25, u26, u27, u28, u29, u30, u31, u32, u33, u34, u35, u36, u37, u38, u39, u40, u41, u42, u43, u44, u45, u46, u47, u48, u49, u50, u51, u52, u53, u54, u55, u56, u57, u58, u59, u60, u61, u62, u63, u64, u65, u66, u67, u68, u69, u70, u71, u72, u73, u74, u75, u76, u77, u78, u79, u80, u81, u82, u83, u84, u85, u86, u87, u88, u89, u90, u91, u92, u93, u94, u95, u96, u97, u98, u99, u100, u101, u102, u103, u104, u105, u106, u107, u108, u109, u110, u111, u112, u113, u114, u115, u116, u117, v118, v119, v120, v121, v122, v123, v124, v125, v126, v127, v128, v129, u130, u131, u132, u133, u134, u135, u136, u137, u138, u139, u140, u141, u142, u143, u144, u145, u146, u147, u148, u149, u150, u151, u152, u153, u154, u155, u156, u157, u158, u159, u160], []⟩ (w.setCell ⟨g, k * 7 + 5, none⟩ (.int .i64 (y + z))).drew) :
    Code.wp Tryz.prog cq10C K ⟨#[u0, u1, u2, .pointer (some ⟨bc, 0, none⟩), .int .i64 k, .slice (some ⟨g, 0, none⟩) n c, u6, u7, u8, u9, u10, u11, u12, u13, u14, u15, u16, u17, u18, u19, u20, u21, u22, u23, u24, u25, u26, u27, u28, u29, u30, u31, u32, u33, u34, u35, u36, u37, u38, u39, u40, u41, u42, u43, u44, u45, u46, u47, u48, u49, u50, u51, u52, u53, u54, u55, u56, u57, u58, u59, u60, u61, u62, u63, u64, u65, u66, u67, u68, u69, u70, u71, u72, u73, u74, u75, u76, u77, u78, u79, u80, u81, u82, u83, u84, u85, u86, u87, u88, u89, u90, u91, u92, u93, u94, u95, u96, u97, u98, u99, u100, u101, u102, u103, u104, u105, u106, u107, u108, u109, u110, u111, u112, u113, u114, u115, u116, u117, u118, u119, u120, u121, u122, u123, u124, u125, u126, u127, u128, u129, u130, u131, u132, u133, u134, u135, u136, u137, u138, u139, u140, u141, u142, u143, u144, u145, u146, u147, u148, u149, u150, u151, u152, u153, u154, u155, u156, u157, u158, u159, u160], []⟩ w := by
  have j1 : (0 : Int) ≤ k := by omega
  have j2 : (k : Int) < n := by omega
  clear hk
  conv => arg 2; whnf
  dsimp only at hK ⊢
  go_still_tail 12, (by kernel_rfl)
  change wpList _ _ _ _ _ w.drew
  go_wp2_with fail
  exact hK _ _ _ _ _ _ _ _ _ _ _ _
noncomputable def cq11C : Code := ((Tryz.f57.body.bind (theRegion 11)).getD .skip)
set_option maxRecDepth 1000000 in
set_option maxHeartbeats 3200000 in
theorem cq11_any (w : World) (bc k n c g : Nat) (y z : Int) (K : Exit → Act → World → Prop) (hk : k < n)
    (c0 : w.cell? ⟨g, k * 7 + 6, none⟩ = some (.int .i64 y)) (f0 : w.frozen? ⟨g, k * 7 + 6, none⟩ = false) (x0 : w.cell? ⟨bc, 6, none⟩ = some (.int .i64 z)) (hw : IntKind.i64.wrap (y + z) = y + z)
    (u0 u1 u2 u6 u7 u8 u9 u10 u11 u12 u13 u14 u15 u16 u17 u18 u19 u20 u21 u22 u23 u24 u25 u26 u27 u28 u29 u30 u31 u32 u33 u34 u35 u36 u37 u38 u39 u40 u41 u42 u43 u44 u45 u46 u47 u48 u49 u50 u51 u52 u53 u54 u55 u56 u57 u58 u59 u60 u61 u62 u63 u64 u65 u66 u67 u68 u69 u70 u71 u72 u73 u74 u75 u76 u77 u78 u79 u80 u81 u82 u83 u84 u85 u86 u87 u88 u89 u90 u91 u92 u93 u94 u95 u96 u97 u98 u99 u100 u101 u102 u103 u104 u105 u106 u107 u108 u109 u110 u111 u112 u113 u114 u115 u116 u117 u118 u119 u120 u121 u122 u123 u124 u125 u126 u127 u128 u129 u130 u131 u132 u133 u134 u135 u136 u137 u138 u139 u140 u141 u142 u143 u144 u145 u146 u147 u148 u149 u150 u151 u152 u153 u154 u155 u156 u157 u158 u159 u160 : Value)
    (hK : ∀ (v130 v131 v132 v133 v134 v135 v136 v137 v138 v139 v140 v141 : Value), K .normal ⟨#[u0, u1, u2, .pointer (some ⟨bc, 0, none⟩), .int .i64 k, .slice (some ⟨g, 0, none⟩) n c, u6, u7, u8, u9, u10, u11, u12, u13, u14, u15, u16, u17, u18, u19, u20, u21, u22, u23, u24, u25, u26, u27, u28, u29, u30, u31, u32, u33, u34, u35, u36, u37, u38, u39, u40, u41, u42, u43, u44, u45, u46, u47, u48, u49, u50, u51, u52, u53, u54, u55, u56, u57, u58, u59, u60, u61, u62, u63, u64, u65, u66, u67, u68, u69, u70, u71, u72, u73, u74, u75, u76, u77, u78, u79, u80, u81, u82, u83, u84, u85, u86, u87, u88, u89, u90, u91, u92, u93, u94, u95, u96, u97, u98, u99, u100, u101, u102, u103, u104, u105, u106, u107, u108, u109, u110, u111, u112, u113, u114, u115, u116, u117, u118, u119, u120, u121, u122, u123, u124, u125, u126, u127, u128, u129, v130, v131, v132, v133, v134, v135, v136, v137, v138, v139, v140, v141, u142, u143, u144, u145, u146, u147, u148, u149, u150, u151, u152, u153, u154, u155, u156, u157, u158, u159, u160], []⟩ (w.setCell ⟨g, k * 7 + 6, none⟩ (.int .i64 (y + z))).drew) :
    Code.wp Tryz.prog cq11C K ⟨#[u0, u1, u2, .pointer (some ⟨bc, 0, none⟩), .int .i64 k, .slice (some ⟨g, 0, none⟩) n c, u6, u7, u8, u9, u10, u11, u12, u13, u14, u15, u16, u17, u18, u19, u20, u21, u22, u23, u24, u25, u26, u27, u28, u29, u30, u31, u32, u33, u34, u35, u36, u37, u38, u39, u40, u41, u42, u43, u44, u45, u46, u47, u48, u49, u50, u51, u52, u53, u54, u55, u56, u57, u58, u59, u60, u61, u62, u63, u64, u65, u66, u67, u68, u69, u70, u71, u72, u73, u74, u75, u76, u77, u78, u79, u80, u81, u82, u83, u84, u85, u86, u87, u88, u89, u90, u91, u92, u93, u94, u95, u96, u97, u98, u99, u100, u101, u102, u103, u104, u105, u106, u107, u108, u109, u110, u111, u112, u113, u114, u115, u116, u117, u118, u119, u120, u121, u122, u123, u124, u125, u126, u127, u128, u129, u130, u131, u132, u133, u134, u135, u136, u137, u138, u139, u140, u141, u142, u143, u144, u145, u146, u147, u148, u149, u150, u151, u152, u153, u154, u155, u156, u157, u158, u159, u160], []⟩ w := by
  have j1 : (0 : Int) ≤ k := by omega
  have j2 : (k : Int) < n := by omega
  clear hk
  conv => arg 2; whnf
  dsimp only at hK ⊢
  go_still_tail 12, (by kernel_rfl)
  change wpList _ _ _ _ _ w.drew
  go_wp2_with fail
  exact hK _ _ _ _ _ _ _ _ _ _ _ _
noncomputable def cq13C : Code := ((Tryz.f57.body.bind (theRegion 13)).getD .skip)
set_option maxRecDepth 1000000 in
set_option maxHeartbeats 1600000 in
set_option linter.unusedSimpArgs false in
theorem cq13_any (w : World) (p : Nat) (bc : Nat) (a : Ct) (n i c m2 c2 N3 : Nat) (A B : Option Addr) (xs1 xs2 : List Value) (K : Exit → Act → World → Prop) (hi : i ≤ n) (hn : n ≤ 1000000) (hm2 : m2 ≤ n) (hN3 : 0 + i + 1 + m2 = N3)
    (hS : ∀ W, Keeps [] w W → Blk W bc 84 #[.int .i64 a.l, .int .i64 a.i, .int .i64 a.runs, .int .i64 a.com, .int .i64 a.con, .int .i64 a.drp, .int .i64 a.str]) (hF : ∀ W, Keeps [] w W → W.frozen? ⟨p, 2, none⟩ = false)
    (hs1 : ∀ W, (Instr.slice 63 (.slice A n c) none (some (.int .i64 i)) none).run Tryz.prog W = .ok (.slice A i c) W) (hs2 : ∀ W, (Instr.slice 63 (.slice A n c) (some (.int .i64 i)) none none).run Tryz.prog W = .ok (.slice B m2 c2) W)
    (hr1 : ∀ W, Keeps [] w W → Reads W W.heap.size 7 A i xs1) (hr2 : ∀ W, Keeps [] w W → Reads W W.heap.size 7 B m2 xs2) (h1 : ∀ u ∈ xs1, u.oneCell' = true) (h2 : ∀ u ∈ xs2, u.oneCell' = true)
    (hc : ∀ W, Keeps [] w W → ∃ v, W.cell? ⟨p, 2, none⟩ = some v)
    (u1 u2 u6 u7 u8 u9 u10 u11 u12 u13 u14 u15 u16 u17 u18 u19 u20 u21 u22 u23 u24 u25 u26 u27 u28 u29 u30 u31 u32 u33 u34 u35 u36 u37 u38 u39 u40 u41 u42 u43 u44 u45 u46 u47 u48 u49 u50 u51 u52 u53 u54 u55 u56 u57 u58 u59 u60 u61 u62 u63 u64 u65 u66 u67 u68 u69 u70 u71 u72 u73 u74 u75 u76 u77 u78 u79 u80 u81 u82 u83 u84 u85 u86 u87 u88 u89 u90 u91 u92 u93 u94 u95 u96 u97 u98 u99 u100 u101 u102 u103 u104 u105 u106 u107 u108 u109 u110 u111 u112 u113 u114 u115 u116 u117 u118 u119 u120 u121 u122 u123 u124 u125 u126 u127 u128 u129 u130 u131 u132 u133 u134 u135 u136 u137 u138 u139 u140 u141 u142 u143 u144 u145 u146 u147 u148 u149 u150 u151 u152 u153 u154 u155 u156 u157 u158 u159 u160 : Value)
    (hK : ∀ (v146 v147 v148 v149 v150 v151 v152 v153 v154 v155 v156 v157 v158 v159 v160 : Value) (v3 : Value) (W : World), W.ownsRow 0 84 7 v3 N3 ([] ++ xs1 ++ [.int .i64 a.l, .int .i64 a.i, .int .i64 a.runs, .int .i64 a.com, .int .i64 a.con, .int .i64 a.drp, .int .i64 a.str] ++ xs2) → Keeps [] w W → (∀ g ∈ fp v3, w.heap.size ≤ g) → K .normal ⟨#[.pointer (some ⟨p, 0, none⟩), u1, u2, .pointer (some ⟨bc, 0, none⟩), .int .i64 i, .slice A n c, u6, u7, u8, u9, u10, u11, u12, u13, u14, u15, u16, u17, u18, u19, u20, u21, u22, u23, u24, u25, u26, u27, u28, u29, u30, u31, u32, u33, u34, u35, u36, u37, u38, u39, u40, u41, u42, u43, u44, u45, u46, u47, u48, u49, u50, u51, u52, u53, u54, u55, u56, u57, u58, u59, u60, u61, u62, u63, u64, u65, u66, u67, u68, u69, u70, u71, u72, u73, u74, u75, u76, u77, u78, u79, u80, u81, u82, u83, u84, u85, u86, u87, u88, u89, u90, u91, u92, u93, u94, u95, u96, u97, u98, u99, u100, u101, u102, u103, u104, u105, u106, u107, u108, u109, u110, u111, u112, u113, u114, u115, u116, u117, u118, u119, u120, u121, u122, u123, u124, u125, u126, u127, u128, u129, u130, u131, u132, u133, u134, u135, u136, u137, u138, u139, u140, u141, u142, u143, u144, u145, v146, v147, v148, v149, v150, v151, v152, v153, v154, v155, v156, v157, v158, v159, v160], []⟩ (W.setCell ⟨p, 2, none⟩ v3)) :
    Code.wp Tryz.prog cq13C K ⟨#[.pointer (some ⟨p, 0, none⟩), u1, u2, .pointer (some ⟨bc, 0, none⟩), .int .i64 i, .slice A n c, u6, u7, u8, u9, u10, u11, u12, u13, u14, u15, u16, u17, u18, u19, u20, u21, u22, u23, u24, u25, u26, u27, u28, u29, u30, u31, u32, u33, u34, u35, u36, u37, u38, u39, u40, u41, u42, u43, u44, u45, u46, u47, u48, u49, u50, u51, u52, u53, u54, u55, u56, u57, u58, u59, u60, u61, u62, u63, u64, u65, u66, u67, u68, u69, u70, u71, u72, u73, u74, u75, u76, u77, u78, u79, u80, u81, u82, u83, u84, u85, u86, u87, u88, u89, u90, u91, u92, u93, u94, u95, u96, u97, u98, u99, u100, u101, u102, u103, u104, u105, u106, u107, u108, u109, u110, u111, u112, u113, u114, u115, u116, u117, u118, u119, u120, u121, u122, u123, u124, u125, u126, u127, u128, u129, u130, u131, u132, u133, u134, u135, u136, u137, u138, u139, u140, u141, u142, u143, u144, u145, u146, u147, u148, u149, u150, u151, u152, u153, u154, u155, u156, u157, u158, u159, u160], []⟩ w := by
  have HS := Lib.hid hS
  have HF := Lib.hid hF
  have HR1 := Lib.hid hr1
  have HR2 := Lib.hid hr2
  have H1 := Lib.hid h1
  have H2 := Lib.hid h2
  have HI := Lib.hid info84
  have HN3 := Lib.hid hN3
  have HC := Lib.hid hc
  clear hc
  clear hS hF hr1 hr2 h1 h2 hN3
  conv => arg 2; whnf
  try dsimp only at hK ⊢
  refine wp_region_noPanic ?_
  refine wp_region_last (S := fun W => Blk W bc 84 #[.int .i64 a.l, .int .i64 a.i, .int .i64 a.runs, .int .i64 a.com, .int .i64 a.con, .int .i64 a.drp, .int .i64 a.str]) 15 (by kernel_rfl) (HS.out _ ((Keeps.refl [] w).drew)) (fun hHeld => ?_)
  obtain ⟨w0, hw0⟩ : ∃ w0, w.drew = w0 := ⟨_, rfl⟩
  try rw [hw0] at hHeld
  rw [hw0]
  have K0 : Keeps [] w w0 := by rw [← hw0]; exact (Keeps.refl [] w).drew
  clear hw0
  refine wpG_take (nx := [13, 5, 4, 4, 5, 8, 7, 8, 12, 11, 11, 12, 13, 14, 15]) (i := 0) (oi := ⟨some 146, Op.move (Operand.tmp 0), 28, _, _, none⟩) (v := ?vq106) (by kernel_rfl) rfl (by decide) (by kernel_rfl) (by kernel_rfl) (by kernel_rfl) (fun _ _ _ h => h) (Or.inl ⟨by rfl, fun W hW => ?_⟩) (by assumption) ?_
  rotate_left
  · go_simp
    with_reducible rfl
  try simp only [Act.put, List.setIfInBounds_toArray, List.set_cons_zero, List.set_cons_succ]
  refine wpG_take (nx := [13, 5, 4, 4, 5, 8, 7, 8, 12, 11, 11, 12, 13, 14, 15]) (i := 2) (oi := ⟨some 148, Op.move (Operand.tmp 5), 63, _, _, none⟩) (v := ?vq107) (by kernel_rfl) rfl (by decide) (by kernel_rfl) (by kernel_rfl) (by kernel_rfl) (fun _ _ _ h => h) (Or.inl ⟨by rfl, fun W hW => ?_⟩) (by assumption) ?_
  rotate_left
  · go_simp
    with_reducible rfl
  try simp only [Act.put, List.setIfInBounds_toArray, List.set_cons_zero, List.set_cons_succ]
  refine wpG_take (nx := [13, 5, 4, 4, 5, 8, 7, 8, 12, 11, 11, 12, 13, 14, 15]) (i := 3) (oi := ⟨some 149, Op.move (Operand.tmp 4), 3, _, _, none⟩) (v := ?vq108) (by kernel_rfl) rfl (by decide) (by kernel_rfl) (by kernel_rfl) (by kernel_rfl) (fun _ _ _ h => h) (Or.inl ⟨by rfl, fun W hW => ?_⟩) (by assumption) ?_
  rotate_left
  · go_simp
    with_reducible rfl
  try simp only [Act.put, List.setIfInBounds_toArray, List.set_cons_zero, List.set_cons_succ]
  refine wpG_take (nx := [13, 5, 4, 4, 5, 8, 7, 8, 12, 11, 11, 12, 13, 14, 15]) (i := 4) (oi := ⟨some 150, Op.slice 63 (Operand.tmp 148) none (some (Operand.tmp 149)) none, 63, _, _, none⟩) (v := .slice A i c) (by kernel_rfl) rfl (by decide) (by kernel_rfl) (by kernel_rfl) (by kernel_rfl) (fun _ _ _ h => h) (Or.inl ⟨by rfl, fun W hW => ?_⟩) (by assumption) ?_
  · go_simp
  try simp only [Act.put, List.setIfInBounds_toArray, List.set_cons_zero, List.set_cons_succ]
  refine wpG_take (nx := [13, 5, 4, 4, 5, 8, 7, 8, 12, 11, 11, 12, 13, 14, 15]) (i := 6) (oi := ⟨some 152, Op.load 84 (Operand.tmp 3), 84, _, _, none⟩) (v := .agg #[.int .i64 a.l, .int .i64 a.i, .int .i64 a.runs, .int .i64 a.com, .int .i64 a.con, .int .i64 a.drp, .int .i64 a.str]) (by kernel_rfl) rfl (by decide) (by kernel_rfl) (by kernel_rfl) (by kernel_rfl) (fun _ _ _ h => h) (Or.inl ⟨by rfl, fun W hW => ?_⟩) (by assumption) ?_
  · (have a0 := hW.cell 0; have a1 := hW.cell 1; have a2 := hW.cell 2; have a3 := hW.cell 3; have a4 := hW.cell 4; have a5 := hW.cell 5; have a6 := hW.cell 6; clear hW; go_simp)
  try simp only [Act.put, List.setIfInBounds_toArray, List.set_cons_zero, List.set_cons_succ]
  refine wpG_take (nx := [13, 5, 4, 4, 5, 8, 7, 8, 12, 11, 11, 12, 13, 14, 15]) (i := 9) (oi := ⟨some 155, Op.move (Operand.tmp 5), 63, _, _, none⟩) (v := ?vq109) (by kernel_rfl) rfl (by decide) (by kernel_rfl) (by kernel_rfl) (by kernel_rfl) (fun _ _ _ h => h) (Or.inl ⟨by rfl, fun W hW => ?_⟩) (by assumption) ?_
  rotate_left
  · go_simp
    with_reducible rfl
  try simp only [Act.put, List.setIfInBounds_toArray, List.set_cons_zero, List.set_cons_succ]
  refine wpG_take (nx := [13, 5, 4, 4, 5, 8, 7, 8, 12, 11, 11, 12, 13, 14, 15]) (i := 10) (oi := ⟨some 156, Op.move (Operand.tmp 4), 3, _, _, none⟩) (v := ?vq110) (by kernel_rfl) rfl (by decide) (by kernel_rfl) (by kernel_rfl) (by kernel_rfl) (fun _ _ _ h => h) (Or.inl ⟨by rfl, fun W hW => ?_⟩) (by assumption) ?_
  rotate_left
  · go_simp
    with_reducible rfl
  try simp only [Act.put, List.setIfInBounds_toArray, List.set_cons_zero, List.set_cons_succ]
  refine wpG_take (nx := [13, 5, 4, 4, 5, 8, 7, 8, 12, 11, 11, 12, 13, 14, 15]) (i := 11) (oi := ⟨some 157, Op.slice 63 (Operand.tmp 155) (some (Operand.tmp 156)) none none, 63, _, _, none⟩) (v := .slice B m2 c2) (by kernel_rfl) rfl (by decide) (by kernel_rfl) (by kernel_rfl) (by kernel_rfl) (fun _ _ _ h => h) (Or.inl ⟨by rfl, fun W hW => ?_⟩) (by assumption) ?_
  · go_simp
  try simp only [Act.put, List.setIfInBounds_toArray, List.set_cons_zero, List.set_cons_succ]
  refine wpG_ready (rs := [1, 7]) (by kernel_rfl) (by simp) ?_
  refine AllG.cons (o := ⟨some 147, Op.buildSlice 63 0 #[], 63, _, _, none⟩) rfl (fun KK hKK => ?_) (AllG.cons (o := ⟨some 153, Op.buildSlice 63 1 #[(0, Operand.tmp 152)], 63, _, _, none⟩) rfl (fun KK hKK => ?_) AllG.nil)
  · go_simp
    obtain ⟨b112, f116⟩ : ∃ b, w0.heap.size = b := ⟨_, rfl⟩
    rw [f116]
    obtain ⟨W111, e115⟩ : ∃ W, World.alloc w0 (.cells #[] 84) = W := ⟨_, rfl⟩
    rw [e115]
    have kk113 : Keeps [] w0 W111 := by rw [← e115]; exact (Keeps.refl [] _).alloc _
    have K114 : Keeps [] w W111 := K0.trans kk113 (by simp)
    have ob117 : W111.ownsRow 0 84 7 (.slice (some ⟨b112, 0, none⟩) 0 0) 0 ([] : List Value) := by rw [← e115, ← f116]; exact own_of_blk (Blk.new _ 84 #[]) (by omega) (by omega) rfl rfl
    have ge118 : ∀ g ∈ fp (.slice (some ⟨b112, 0, none⟩) 0 0), w.heap.size ≤ g := by have := K0.size; intro g hg; have h0 : g = b112 := (by simpa [fp, Value.ownBlock] using hg); omega
    refine hKK.out _ _ (HS.out _ K114) (fun hHeld => ?_)
    clear hKK KK e115 f116
    try simp only [Act.put, List.setIfInBounds_toArray, List.set_cons_zero, List.set_cons_succ]
    refine wpG_ready (rs := [5, 7]) (by kernel_rfl) (by simp) ?_
    refine AllG.cons (o := ⟨some 151, Op.call { callee := Callee.builtin Builtin.append, args := #[Operand.tmp 147, Operand.tmp 150], argTypes := #[63, 63] }, 63, _, _, none⟩) rfl (fun KK hKK => ?_) (AllG.cons (o := ⟨some 153, Op.buildSlice 63 1 #[(0, Operand.tmp 152)], 63, _, _, none⟩) rfl (fun KK hKK => ?_) AllG.nil)
    · refine step_app (by rfl) (.tmp 147) (.tmp 150) 63 (by rfl) 84 (.agg #[.int .i64 0, .int .i64 0, .int .i64 0, .int .i64 0, .int .i64 0, .int .i64 0, .int .i64 0]) 7 56 Tryz.underlying63 HI.out rfl (by omega) (.slice (some ⟨b112, 0, none⟩) 0 0) 0 (([] : List Value)) ?_ ob117 _ A i c (xs1) ?_ (HR1.out _ K114) H1.out (by unfold maxLen; omega) (by omega) (fun v120 W119 ob121 kk122 f123 => ?_)
      · first | (simp [Act.eval]; done) | (simp [Act.eval, Act.put]; done)
      · first | (simp [Act.eval]; done) | (simp [Act.eval, Act.put]; done)
      have K124 : Keeps [] w W119 := K114.trans kk122 (fun g hg => .inr (ge118 g hg))
      have ge125 : ∀ g ∈ fp v120, w.heap.size ≤ g := ges_app f123 ge118 K114.size
      refine hKK.out _ _ (HS.out _ K124) (fun hHeld => ?_)
      clear hKK KK
      try simp only [Act.put, List.setIfInBounds_toArray, List.set_cons_zero, List.set_cons_succ]
      refine wpG_ready (rs := [7]) (by kernel_rfl) (by simp) ?_
      refine AllG.cons (o := ⟨some 153, Op.buildSlice 63 1 #[(0, Operand.tmp 152)], 63, _, _, none⟩) rfl (fun KK hKK => ?_) AllG.nil
      go_simp
      obtain ⟨b127, f131⟩ : ∃ b, W119.heap.size = b := ⟨_, rfl⟩
      rw [f131]
      obtain ⟨W126, e130⟩ : ∃ W, World.alloc W119 (.cells #[.int .i64 a.l, .int .i64 a.i, .int .i64 a.runs, .int .i64 a.com, .int .i64 a.con, .int .i64 a.drp, .int .i64 a.str] 84) = W := ⟨_, rfl⟩
      rw [e130]
      have kk128 : Keeps [] W119 W126 := by rw [← e130]; exact (Keeps.refl [] _).alloc _
      have K129 : Keeps [] w W126 := K124.trans kk128 (by simp)
      have d134 : ∀ g ∈ fp v120, g ∉ [b127] := by rw [← f131]; exact off_new (own_lts ob121)
      have ob135 := own_keep ob121 kk128 (by simp)
      have ob132 : Blk W126 b127 84 #[.int .i64 a.l, .int .i64 a.i, .int .i64 a.runs, .int .i64 a.com, .int .i64 a.con, .int .i64 a.drp, .int .i64 a.str] := by rw [← e130, ← f131]; exact Blk.new _ _ _
      have ge133 : ∀ g ∈ [b127], w.heap.size ≤ g := by have := K124.size; intro g hg; rw [List.mem_singleton.1 hg]; omega
      refine hKK.out _ _ (HS.out _ K129) (fun hHeld => ?_)
      clear hKK KK e130 f131
      try simp only [Act.put, List.setIfInBounds_toArray, List.set_cons_zero, List.set_cons_succ]
      refine wpG_ready (rs := [8]) (by kernel_rfl) (by simp) ?_
      refine AllG.cons (o := ⟨some 154, Op.call { callee := Callee.builtin Builtin.append, args := #[Operand.tmp 151, Operand.tmp 153], argTypes := #[63, 63] }, 63, _, _, none⟩) rfl (fun KK hKK => ?_) AllG.nil
      refine step_app (by rfl) (.tmp 151) (.tmp 153) 63 (by rfl) 84 (.agg #[.int .i64 0, .int .i64 0, .int .i64 0, .int .i64 0, .int .i64 0, .int .i64 0, .int .i64 0]) 7 56 Tryz.underlying63 HI.out rfl (by omega) v120 (0 + i) ([] ++ xs1) ?_ ob135 _ (some ⟨b127, 0, none⟩) 1 1 ([.int .i64 a.l, .int .i64 a.i, .int .i64 a.runs, .int .i64 a.com, .int .i64 a.con, .int .i64 a.drp, .int .i64 a.str]) ?_ (reads_blk ob132 rfl rfl) (by simp [Value.oneCell']) (by unfold maxLen; omega) (by omega) (fun v137 W136 ob138 kk139 f140 => ?_)
      · first | (simp [Act.eval]; done) | (simp [Act.eval, Act.put]; done)
      · first | (simp [Act.eval]; done) | (simp [Act.eval, Act.put]; done)
      have K141 : Keeps [] w W136 := K129.trans kk139 (fun g hg => .inr (ge125 g hg))
      have ge142 : ∀ g ∈ fp v137, w.heap.size ≤ g := ges_app f140 ge125 K129.size
      have d143 : ∀ g ∈ fp v137, g ∉ [b127] := off_app f140 d134 ob132.lts
      have ob144 := ob132.keep kk139 (fun h0 => d134 _ h0 (by simp))
      refine hKK.out _ _ (HS.out _ K141) (fun hHeld => ?_)
      clear hKK KK
      try simp only [Act.put, List.setIfInBounds_toArray, List.set_cons_zero, List.set_cons_succ]
      refine wpG_ready (rs := [12]) (by kernel_rfl) (by simp) ?_
      refine AllG.cons (o := ⟨some 158, Op.call { callee := Callee.builtin Builtin.append, args := #[Operand.tmp 154, Operand.tmp 157], argTypes := #[63, 63] }, 63, _, _, none⟩) rfl (fun KK hKK => ?_) AllG.nil
      refine step_app (by rfl) (.tmp 154) (.tmp 157) 63 (by rfl) 84 (.agg #[.int .i64 0, .int .i64 0, .int .i64 0, .int .i64 0, .int .i64 0, .int .i64 0, .int .i64 0]) 7 56 Tryz.underlying63 HI.out rfl (by omega) v137 (0 + i + 1) ([] ++ xs1 ++ [.int .i64 a.l, .int .i64 a.i, .int .i64 a.runs, .int .i64 a.com, .int .i64 a.con, .int .i64 a.drp, .int .i64 a.str]) ?_ ob138 _ B m2 c2 (xs2) ?_ (HR2.out _ K141) H2.out (by unfold maxLen; omega) (by omega) (fun v146 W145 ob147 kk148 f149 => ?_)
      · first | (simp [Act.eval]; done) | (simp [Act.eval, Act.put]; done)
      · first | (simp [Act.eval]; done) | (simp [Act.eval, Act.put]; done)
      have K150 : Keeps [] w W145 := K141.trans kk148 (fun g hg => .inr (ge142 g hg))
      have ge151 : ∀ g ∈ fp v146, w.heap.size ≤ g := ges_app f149 ge142 K141.size
      have d152 : ∀ g ∈ fp v146, g ∉ [b127] := off_app f149 d143 ob144.lts
      have ob153 := ob144.keep kk148 (fun h0 => d143 _ h0 (by simp))
      rw [HN3.out] at ob147
      obtain ⟨A154, c155, rfl, -, -, -⟩ := own_shape ob147
      refine hKK.out _ _ (HS.out _ K150) (fun hHeld => ?_)
      clear hKK KK
      try simp only [Act.put, List.setIfInBounds_toArray, List.set_cons_zero, List.set_cons_succ]
      refine wpG_take (nx := [13, 5, 4, 4, 5, 8, 7, 8, 12, 11, 11, 12, 13, 14, 15]) (i := 13) (oi := ⟨some 159, Op.nilCheck (Operand.tmp 146), 0, _, _, none⟩) (v := ?vq156) (by kernel_rfl) rfl (by decide) (by kernel_rfl) (by kernel_rfl) (by kernel_rfl) (fun _ _ _ h => h) (Or.inl ⟨by rfl, fun W hW => ?_⟩) (by assumption) ?_
      rotate_left
      · go_simp
        with_reducible rfl
      try simp only [Act.put, List.setIfInBounds_toArray, List.set_cons_zero, List.set_cons_succ]
      refine wpG_take (nx := [13, 5, 4, 4, 5, 8, 7, 8, 12, 11, 11, 12, 13, 14, 15]) (i := 14) (oi := ⟨some 160, Op.fieldAddr 65 (Operand.tmp 159) 2, 0, _, _, none⟩) (v := ?vq157) (by kernel_rfl) rfl (by decide) (by kernel_rfl) (by kernel_rfl) (by kernel_rfl) (fun _ _ _ h => h) (Or.inl ⟨by rfl, fun W hW => ?_⟩) (by assumption) ?_
      rotate_left
      · go_simp
        with_reducible rfl
      try simp only [Act.put, List.setIfInBounds_toArray, List.set_cons_zero, List.set_cons_succ]
      refine wpG_ready (rs := [15]) (by kernel_rfl) (by simp) ?_
      refine AllG.last (o := ⟨none, Op.store 63 (Operand.tmp 160) (Operand.tmp 158), 0, _, _, none⟩) rfl (fun KK hKK => ?_)
      obtain ⟨_, hc0⟩ := HC.out _ K150
      have hf0 := HF.out _ K150
      go_simp
      refine hKK.out _ _ ?_
      clear hKK KK hHeld
      try simp only [Act.put, List.setIfInBounds_toArray, List.set_cons_zero, List.set_cons_succ]
      refine wpG_done (by kernel_rfl) ?_ _
      refine NoPanic.normal ?_
      exact hK _ _ _ _ _ _ _ _ _ _ _ _ _ _ _ (.slice A154 N3 c155) W145 ob147 K150 ge151
    · go_simp
      obtain ⟨b159, f163⟩ : ∃ b, W111.heap.size = b := ⟨_, rfl⟩
      rw [f163]
      obtain ⟨W158, e162⟩ : ∃ W, World.alloc W111 (.cells #[.int .i64 a.l, .int .i64 a.i, .int .i64 a.runs, .int .i64 a.com, .int .i64 a.con, .int .i64 a.drp, .int .i64 a.str] 84) = W := ⟨_, rfl⟩
      rw [e162]
      have kk160 : Keeps [] W111 W158 := by rw [← e162]; exact (Keeps.refl [] _).alloc _
      have K161 : Keeps [] w W158 := K114.trans kk160 (by simp)
      have d166 : ∀ g ∈ fp (.slice (some ⟨b112, 0, none⟩) 0 0), g ∉ [b159] := by rw [← f163]; exact off_new (own_lts ob117)
      have ob167 := own_keep ob117 kk160 (by simp)
      have ob164 : Blk W158 b159 84 #[.int .i64 a.l, .int .i64 a.i, .int .i64 a.runs, .int .i64 a.com, .int .i64 a.con, .int .i64 a.drp, .int .i64 a.str] := by rw [← e162, ← f163]; exact Blk.new _ _ _
      have ge165 : ∀ g ∈ [b159], w.heap.size ≤ g := by have := K114.size; intro g hg; rw [List.mem_singleton.1 hg]; omega
      refine hKK.out _ _ (HS.out _ K161) (fun hHeld => ?_)
      clear hKK KK e162 f163
      try simp only [Act.put, List.setIfInBounds_toArray, List.set_cons_zero, List.set_cons_succ]
      refine wpG_ready (rs := [5]) (by kernel_rfl) (by simp) ?_
      refine AllG.cons (o := ⟨some 151, Op.call { callee := Callee.builtin Builtin.append, args := #[Operand.tmp 147, Operand.tmp 150], argTypes := #[63, 63] }, 63, _, _, none⟩) rfl (fun KK hKK => ?_) AllG.nil
      refine step_app (by rfl) (.tmp 147) (.tmp 150) 63 (by rfl) 84 (.agg #[.int .i64 0, .int .i64 0, .int .i64 0, .int .i64 0, .int .i64 0, .int .i64 0, .int .i64 0]) 7 56 Tryz.underlying63 HI.out rfl (by omega) (.slice (some ⟨b112, 0, none⟩) 0 0) 0 (([] : List Value)) ?_ ob167 _ A i c (xs1) ?_ (HR1.out _ K161) H1.out (by unfold maxLen; omega) (by omega) (fun v169 W168 ob170 kk171 f172 => ?_)
      · first | (simp [Act.eval]; done) | (simp [Act.eval, Act.put]; done)
      · first | (simp [Act.eval]; done) | (simp [Act.eval, Act.put]; done)
      have K173 : Keeps [] w W168 := K161.trans kk171 (fun g hg => .inr (ge118 g hg))
      have ge174 : ∀ g ∈ fp v169, w.heap.size ≤ g := ges_app f172 ge118 K161.size
      have d175 : ∀ g ∈ fp v169, g ∉ [b159] := off_app f172 d166 ob164.lts
      have ob176 := ob164.keep kk171 (fun h0 => d166 _ h0 (by simp))
      refine hKK.out _ _ (HS.out _ K173) (fun hHeld => ?_)
      clear hKK KK
      try simp only [Act.put, List.setIfInBounds_toArray, List.set_cons_zero, List.set_cons_succ]
      refine wpG_ready (rs := [8]) (by kernel_rfl) (by simp) ?_
      refine AllG.cons (o := ⟨some 154, Op.call { callee := Callee.builtin Builtin.append, args := #[Operand.tmp 151, Operand.tmp 153], argTypes := #[63, 63] }, 63, _, _, none⟩) rfl (fun KK hKK => ?_) AllG.nil
      refine step_app (by rfl) (.tmp 151) (.tmp 153) 63 (by rfl) 84 (.agg #[.int .i64 0, .int .i64 0, .int .i64 0, .int .i64 0, .int .i64 0, .int .i64 0, .int .i64 0]) 7 56 Tryz.underlying63 HI.out rfl (by omega) v169 (0 + i) ([] ++ xs1) ?_ ob170 _ (some ⟨b159, 0, none⟩) 1 1 ([.int .i64 a.l, .int .i64 a.i, .int .i64 a.runs, .int .i64 a.com, .int .i64 a.con, .int .i64 a.drp, .int .i64 a.str]) ?_ (reads_blk ob176 rfl rfl) (by simp [Value.oneCell']) (by unfold maxLen; omega) (by omega) (fun v178 W177 ob179 kk180 f181 => ?_)
      · first | (simp [Act.eval]; done) | (simp [Act.eval, Act.put]; done)
      · first | (simp [Act.eval]; done) | (simp [Act.eval, Act.put]; done)
      have K182 : Keeps [] w W177 := K173.trans kk180 (fun g hg => .inr (ge174 g hg))
      have ge183 : ∀ g ∈ fp v178, w.heap.size ≤ g := ges_app f181 ge174 K173.size
      have d184 : ∀ g ∈ fp v178, g ∉ [b159] := off_app f181 d175 ob176.lts
      have ob185 := ob176.keep kk180 (fun h0 => d175 _ h0 (by simp))
      refine hKK.out _ _ (HS.out _ K182) (fun hHeld => ?_)
      clear hKK KK
      try simp only [Act.put, List.setIfInBounds_toArray, List.set_cons_zero, List.set_cons_succ]
      refine wpG_ready (rs := [12]) (by kernel_rfl) (by simp) ?_
      refine AllG.cons (o := ⟨some 158, Op.call { callee := Callee.builtin Builtin.append, args := #[Operand.tmp 154, Operand.tmp 157], argTypes := #[63, 63] }, 63, _, _, none⟩) rfl (fun KK hKK => ?_) AllG.nil
      refine step_app (by rfl) (.tmp 154) (.tmp 157) 63 (by rfl) 84 (.agg #[.int .i64 0, .int .i64 0, .int .i64 0, .int .i64 0, .int .i64 0, .int .i64 0, .int .i64 0]) 7 56 Tryz.underlying63 HI.out rfl (by omega) v178 (0 + i + 1) ([] ++ xs1 ++ [.int .i64 a.l, .int .i64 a.i, .int .i64 a.runs, .int .i64 a.com, .int .i64 a.con, .int .i64 a.drp, .int .i64 a.str]) ?_ ob179 _ B m2 c2 (xs2) ?_ (HR2.out _ K182) H2.out (by unfold maxLen; omega) (by omega) (fun v187 W186 ob188 kk189 f190 => ?_)
      · first | (simp [Act.eval]; done) | (simp [Act.eval, Act.put]; done)
      · first | (simp [Act.eval]; done) | (simp [Act.eval, Act.put]; done)
      have K191 : Keeps [] w W186 := K182.trans kk189 (fun g hg => .inr (ge183 g hg))
      have ge192 : ∀ g ∈ fp v187, w.heap.size ≤ g := ges_app f190 ge183 K182.size
      have d193 : ∀ g ∈ fp v187, g ∉ [b159] := off_app f190 d184 ob185.lts
      have ob194 := ob185.keep kk189 (fun h0 => d184 _ h0 (by simp))
      rw [HN3.out] at ob188
      obtain ⟨A195, c196, rfl, -, -, -⟩ := own_shape ob188
      refine hKK.out _ _ (HS.out _ K191) (fun hHeld => ?_)
      clear hKK KK
      try simp only [Act.put, List.setIfInBounds_toArray, List.set_cons_zero, List.set_cons_succ]
      refine wpG_take (nx := [13, 5, 4, 4, 5, 8, 7, 8, 12, 11, 11, 12, 13, 14, 15]) (i := 13) (oi := ⟨some 159, Op.nilCheck (Operand.tmp 146), 0, _, _, none⟩) (v := ?vq197) (by kernel_rfl) rfl (by decide) (by kernel_rfl) (by kernel_rfl) (by kernel_rfl) (fun _ _ _ h => h) (Or.inl ⟨by rfl, fun W hW => ?_⟩) (by assumption) ?_
      rotate_left
      · go_simp
        with_reducible rfl
      try simp only [Act.put, List.setIfInBounds_toArray, List.set_cons_zero, List.set_cons_succ]
      refine wpG_take (nx := [13, 5, 4, 4, 5, 8, 7, 8, 12, 11, 11, 12, 13, 14, 15]) (i := 14) (oi := ⟨some 160, Op.fieldAddr 65 (Operand.tmp 159) 2, 0, _, _, none⟩) (v := ?vq198) (by kernel_rfl) rfl (by decide) (by kernel_rfl) (by kernel_rfl) (by kernel_rfl) (fun _ _ _ h => h) (Or.inl ⟨by rfl, fun W hW => ?_⟩) (by assumption) ?_
      rotate_left
      · go_simp
        with_reducible rfl
      try simp only [Act.put, List.setIfInBounds_toArray, List.set_cons_zero, List.set_cons_succ]
      refine wpG_ready (rs := [15]) (by kernel_rfl) (by simp) ?_
      refine AllG.last (o := ⟨none, Op.store 63 (Operand.tmp 160) (Operand.tmp 158), 0, _, _, none⟩) rfl (fun KK hKK => ?_)
      obtain ⟨_, hc0⟩ := HC.out _ K191
      have hf0 := HF.out _ K191
      go_simp
      refine hKK.out _ _ ?_
      clear hKK KK hHeld
      try simp only [Act.put, List.setIfInBounds_toArray, List.set_cons_zero, List.set_cons_succ]
      refine wpG_done (by kernel_rfl) ?_ _
      refine NoPanic.normal ?_
      exact hK _ _ _ _ _ _ _ _ _ _ _ _ _ _ _ (.slice A195 N3 c196) W186 ob188 K191 ge192
  · go_simp
    obtain ⟨b200, f204⟩ : ∃ b, w0.heap.size = b := ⟨_, rfl⟩
    rw [f204]
    obtain ⟨W199, e203⟩ : ∃ W, World.alloc w0 (.cells #[.int .i64 a.l, .int .i64 a.i, .int .i64 a.runs, .int .i64 a.com, .int .i64 a.con, .int .i64 a.drp, .int .i64 a.str] 84) = W := ⟨_, rfl⟩
    rw [e203]
    have kk201 : Keeps [] w0 W199 := by rw [← e203]; exact (Keeps.refl [] _).alloc _
    have K202 : Keeps [] w W199 := K0.trans kk201 (by simp)
    have ob205 : Blk W199 b200 84 #[.int .i64 a.l, .int .i64 a.i, .int .i64 a.runs, .int .i64 a.com, .int .i64 a.con, .int .i64 a.drp, .int .i64 a.str] := by rw [← e203, ← f204]; exact Blk.new _ _ _
    have ge206 : ∀ g ∈ [b200], w.heap.size ≤ g := by have := K0.size; intro g hg; rw [List.mem_singleton.1 hg]; omega
    refine hKK.out _ _ (HS.out _ K202) (fun hHeld => ?_)
    clear hKK KK e203 f204
    try simp only [Act.put, List.setIfInBounds_toArray, List.set_cons_zero, List.set_cons_succ]
    refine wpG_ready (rs := [1]) (by kernel_rfl) (by simp) ?_
    refine AllG.cons (o := ⟨some 147, Op.buildSlice 63 0 #[], 63, _, _, none⟩) rfl (fun KK hKK => ?_) AllG.nil
    go_simp
    obtain ⟨b208, f212⟩ : ∃ b, W199.heap.size = b := ⟨_, rfl⟩
    rw [f212]
    obtain ⟨W207, e211⟩ : ∃ W, World.alloc W199 (.cells #[] 84) = W := ⟨_, rfl⟩
    rw [e211]
    have kk209 : Keeps [] W199 W207 := by rw [← e211]; exact (Keeps.refl [] _).alloc _
    have K210 : Keeps [] w W207 := K202.trans kk209 (by simp)
    have d215 : ∀ g ∈ [b200], g ∉ [b208] := by rw [← f212]; exact off_new ob205.lts
    have ob216 := ob205.keep kk209 (by simp)
    have ob213 : W207.ownsRow 0 84 7 (.slice (some ⟨b208, 0, none⟩) 0 0) 0 ([] : List Value) := by rw [← e211, ← f212]; exact own_of_blk (Blk.new _ 84 #[]) (by omega) (by omega) rfl rfl
    have ge214 : ∀ g ∈ fp (.slice (some ⟨b208, 0, none⟩) 0 0), w.heap.size ≤ g := by have := K202.size; intro g hg; have h0 : g = b208 := (by simpa [fp, Value.ownBlock] using hg); omega
    refine hKK.out _ _ (HS.out _ K210) (fun hHeld => ?_)
    clear hKK KK e211 f212
    try simp only [Act.put, List.setIfInBounds_toArray, List.set_cons_zero, List.set_cons_succ]
    refine wpG_ready (rs := [5]) (by kernel_rfl) (by simp) ?_
    refine AllG.cons (o := ⟨some 151, Op.call { callee := Callee.builtin Builtin.append, args := #[Operand.tmp 147, Operand.tmp 150], argTypes := #[63, 63] }, 63, _, _, none⟩) rfl (fun KK hKK => ?_) AllG.nil
    refine step_app (by rfl) (.tmp 147) (.tmp 150) 63 (by rfl) 84 (.agg #[.int .i64 0, .int .i64 0, .int .i64 0, .int .i64 0, .int .i64 0, .int .i64 0, .int .i64 0]) 7 56 Tryz.underlying63 HI.out rfl (by omega) (.slice (some ⟨b208, 0, none⟩) 0 0) 0 (([] : List Value)) ?_ ob213 _ A i c (xs1) ?_ (HR1.out _ K210) H1.out (by unfold maxLen; omega) (by omega) (fun v218 W217 ob219 kk220 f221 => ?_)
    · first | (simp [Act.eval]; done) | (simp [Act.eval, Act.put]; done)
    · first | (simp [Act.eval]; done) | (simp [Act.eval, Act.put]; done)
    have K222 : Keeps [] w W217 := K210.trans kk220 (fun g hg => .inr (ge214 g hg))
    have ge223 : ∀ g ∈ fp v218, w.heap.size ≤ g := ges_app f221 ge214 K210.size
    have d224 : ∀ g ∈ fp v218, g ∉ [b200] := off_app f221 (off_symm d215) ob216.lts
    have ob225 := ob216.keep kk220 (fun h0 => (off_symm d215) _ h0 (by simp))
    refine hKK.out _ _ (HS.out _ K222) (fun hHeld => ?_)
    clear hKK KK
    try simp only [Act.put, List.setIfInBounds_toArray, List.set_cons_zero, List.set_cons_succ]
    refine wpG_ready (rs := [8]) (by kernel_rfl) (by simp) ?_
    refine AllG.cons (o := ⟨some 154, Op.call { callee := Callee.builtin Builtin.append, args := #[Operand.tmp 151, Operand.tmp 153], argTypes := #[63, 63] }, 63, _, _, none⟩) rfl (fun KK hKK => ?_) AllG.nil
    refine step_app (by rfl) (.tmp 151) (.tmp 153) 63 (by rfl) 84 (.agg #[.int .i64 0, .int .i64 0, .int .i64 0, .int .i64 0, .int .i64 0, .int .i64 0, .int .i64 0]) 7 56 Tryz.underlying63 HI.out rfl (by omega) v218 (0 + i) ([] ++ xs1) ?_ ob219 _ (some ⟨b200, 0, none⟩) 1 1 ([.int .i64 a.l, .int .i64 a.i, .int .i64 a.runs, .int .i64 a.com, .int .i64 a.con, .int .i64 a.drp, .int .i64 a.str]) ?_ (reads_blk ob225 rfl rfl) (by simp [Value.oneCell']) (by unfold maxLen; omega) (by omega) (fun v227 W226 ob228 kk229 f230 => ?_)
    · first | (simp [Act.eval]; done) | (simp [Act.eval, Act.put]; done)
    · first | (simp [Act.eval]; done) | (simp [Act.eval, Act.put]; done)
    have K231 : Keeps [] w W226 := K222.trans kk229 (fun g hg => .inr (ge223 g hg))
    have ge232 : ∀ g ∈ fp v227, w.heap.size ≤ g := ges_app f230 ge223 K222.size
    have d233 : ∀ g ∈ fp v227, g ∉ [b200] := off_app f230 d224 ob225.lts
    have ob234 := ob225.keep kk229 (fun h0 => d224 _ h0 (by simp))
    refine hKK.out _ _ (HS.out _ K231) (fun hHeld => ?_)
    clear hKK KK
    try simp only [Act.put, List.setIfInBounds_toArray, List.set_cons_zero, List.set_cons_succ]
    refine wpG_ready (rs := [12]) (by kernel_rfl) (by simp) ?_
    refine AllG.cons (o := ⟨some 158, Op.call { callee := Callee.builtin Builtin.append, args := #[Operand.tmp 154, Operand.tmp 157], argTypes := #[63, 63] }, 63, _, _, none⟩) rfl (fun KK hKK => ?_) AllG.nil
    refine step_app (by rfl) (.tmp 154) (.tmp 157) 63 (by rfl) 84 (.agg #[.int .i64 0, .int .i64 0, .int .i64 0, .int .i64 0, .int .i64 0, .int .i64 0, .int .i64 0]) 7 56 Tryz.underlying63 HI.out rfl (by omega) v227 (0 + i + 1) ([] ++ xs1 ++ [.int .i64 a.l, .int .i64 a.i, .int .i64 a.runs, .int .i64 a.com, .int .i64 a.con, .int .i64 a.drp, .int .i64 a.str]) ?_ ob228 _ B m2 c2 (xs2) ?_ (HR2.out _ K231) H2.out (by unfold maxLen; omega) (by omega) (fun v236 W235 ob237 kk238 f239 => ?_)
    · first | (simp [Act.eval]; done) | (simp [Act.eval, Act.put]; done)
    · first | (simp [Act.eval]; done) | (simp [Act.eval, Act.put]; done)
    have K240 : Keeps [] w W235 := K231.trans kk238 (fun g hg => .inr (ge232 g hg))
    have ge241 : ∀ g ∈ fp v236, w.heap.size ≤ g := ges_app f239 ge232 K231.size
    have d242 : ∀ g ∈ fp v236, g ∉ [b200] := off_app f239 d233 ob234.lts
    have ob243 := ob234.keep kk238 (fun h0 => d233 _ h0 (by simp))
    rw [HN3.out] at ob237
    obtain ⟨A244, c245, rfl, -, -, -⟩ := own_shape ob237
    refine hKK.out _ _ (HS.out _ K240) (fun hHeld => ?_)
    clear hKK KK
    try simp only [Act.put, List.setIfInBounds_toArray, List.set_cons_zero, List.set_cons_succ]
    refine wpG_take (nx := [13, 5, 4, 4, 5, 8, 7, 8, 12, 11, 11, 12, 13, 14, 15]) (i := 13) (oi := ⟨some 159, Op.nilCheck (Operand.tmp 146), 0, _, _, none⟩) (v := ?vq246) (by kernel_rfl) rfl (by decide) (by kernel_rfl) (by kernel_rfl) (by kernel_rfl) (fun _ _ _ h => h) (Or.inl ⟨by rfl, fun W hW => ?_⟩) (by assumption) ?_
    rotate_left
    · go_simp
      with_reducible rfl
    try simp only [Act.put, List.setIfInBounds_toArray, List.set_cons_zero, List.set_cons_succ]
    refine wpG_take (nx := [13, 5, 4, 4, 5, 8, 7, 8, 12, 11, 11, 12, 13, 14, 15]) (i := 14) (oi := ⟨some 160, Op.fieldAddr 65 (Operand.tmp 159) 2, 0, _, _, none⟩) (v := ?vq247) (by kernel_rfl) rfl (by decide) (by kernel_rfl) (by kernel_rfl) (by kernel_rfl) (fun _ _ _ h => h) (Or.inl ⟨by rfl, fun W hW => ?_⟩) (by assumption) ?_
    rotate_left
    · go_simp
      with_reducible rfl
    try simp only [Act.put, List.setIfInBounds_toArray, List.set_cons_zero, List.set_cons_succ]
    refine wpG_ready (rs := [15]) (by kernel_rfl) (by simp) ?_
    refine AllG.last (o := ⟨none, Op.store 63 (Operand.tmp 160) (Operand.tmp 158), 0, _, _, none⟩) rfl (fun KK hKK => ?_)
    obtain ⟨_, hc0⟩ := HC.out _ K240
    have hf0 := HF.out _ K240
    go_simp
    refine hKK.out _ _ ?_
    clear hKK KK hHeld
    try simp only [Act.put, List.setIfInBounds_toArray, List.set_cons_zero, List.set_cons_succ]
    refine wpG_done (by kernel_rfl) ?_ _
    refine NoPanic.normal ?_
    exact hK _ _ _ _ _ _ _ _ _ _ _ _ _ _ _ (.slice A244 N3 c245) W235 ob237 K240 ge241
end Go.Proofs.YtcopjjokhjealaaGreat
