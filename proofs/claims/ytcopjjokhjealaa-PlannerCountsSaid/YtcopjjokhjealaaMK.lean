/- The texts W56b, W56 in one. -/
import Derived.Test.YtcopjjokhjealaaMJ
import Derived.Deep.CutRange
namespace Go.Proofs.Ytcopjjokhjealaa
open Go.RowKit

theorem wpList_load_rowG {P : Program} {ops : Array Oper} {rest : List Oper} {o : Oper} {a : Act} {w : World} {Q : Exit → Act → World → Prop} (hw : Region.wanted o (yielded ops a.tmps) = true) (ty : TypeId) (x : Operand) (ho : o.op = .load ty x)
    (g : Nat) (hx : a.eval x = .pointer (some ⟨g, 0, none⟩)) (t : TypeId) (cs : Array Value) (fr : Nat × Nat) (d : TypeDesc) (hg : w.heap[g]? = some (.cells cs t fr))
    (hu : P.underlying ty = some d) (hd : (match d with | .struct _ | .array _ _ => true | _ => false) = true) (hi : (P.info? ty).map (·.size) = some cs.size)
    (h : wpList P ops Q rest (a.put o.dst (.agg cs)) w) : wpList P ops Q (o :: rest) a w :=
  wpList_step fun _ hK => by rw [if_pos hw]; exact wp_load_row ty x ho g hx t cs fr d hg hu hd hi (hK _ _ h)
noncomputable def cnt43C : Code := ((Try.f3.body.bind (theRegion 43)).getD .skip)
set_option maxRecDepth 1000000 in
set_option maxHeartbeats 3200000 in
theorem cnt43_0 (w : World) (A : Option Addr) (nD cD b17 : Nat) (yi yc yn yd ys m : Int) (K : Exit → Act → World → Prop)
    (hb : Blk w b17 36 #[.int .i64 0, .int .i64 yi, .int .i64 (yc + yn + yd + ys + m), .int .i64 yc, .int .i64 yn, .int .i64 yd, .int .i64 ys]) (c1 : 0 ≤ yc) (c2 : yc ≤ 1000) (n1 : 0 ≤ yn) (n2 : yn ≤ 1000) (d1 : 0 ≤ yd) (d2 : yd ≤ 1000) (s1 : 0 ≤ ys) (s2 : ys ≤ 1000) (m1 : 0 ≤ m) (m2 : m ≤ 1)
    (hC : Calls Try.prog 13 #[.slice A nD cD, .agg #[.int .i64 0, .int .i64 yi, .int .i64 (yc + yn + yd + ys + m), .int .i64 yc, .int .i64 yn, .int .i64 yd, .int .i64 ys]] w fun e w' => e = .returned (.bool true) ∧ Keeps [] w w')
    (u0 u1 u2 u3 u4 u5 u6 u8 u9 u10 u11 u12 u13 u14 u15 u16 u19 u20 u21 u22 u23 u24 u25 u26 u27 u28 u29 u30 u31 u32 u33 u34 u35 u36 u37 u38 u39 u40 u41 u42 u43 u44 u45 u46 u47 u48 u49 u50 u51 u52 u53 u54 u55 u56 u57 u58 u59 u60 u61 u62 u63 u64 u65 u66 u67 u68 u69 u70 u71 u72 u73 u74 u75 u76 u77 u78 u79 u80 u81 u82 u83 u84 u85 u86 u87 u88 u89 u90 u91 u92 u93 u94 u95 u96 u97 u98 u99 u100 u101 u102 u103 u104 u105 u106 u107 u108 u109 u110 u111 u112 u113 u114 u115 u116 u117 u118 u119 u120 u121 u122 u123 u124 u125 u126 u127 u128 u129 u130 u131 u132 u133 u134 u135 u136 u137 u138 u139 u140 u141 u142 u143 u144 u145 u146 u147 u148 u149 u150 u151 u152 u153 u154 u155 : Value)
    (hK : ∀ (v128 v129 v130 v131 v132 v133 v134 v135 v136 v137 v138 v139 v140 v141 v142 v143 v144 v145 v146 v147 v148 v149 v150 v151 v152 v153 : Value) (W : World), Keeps [] w W → K .normal ⟨#[u0, u1, u2, u3, u4, u5, u6, .slice A nD cD, u8, u9, u10, u11, u12, u13, u14, u15, u16, .pointer (some ⟨b17, 0, none⟩), .int .i64 m, u19, u20, u21, u22, u23, u24, u25, u26, u27, u28, u29, u30, u31, u32, u33, u34, u35, u36, u37, u38, u39, u40, u41, u42, u43, u44, u45, u46, u47, u48, u49, u50, u51, u52, u53, u54, u55, u56, u57, u58, u59, u60, u61, u62, u63, u64, u65, u66, u67, u68, u69, u70, u71, u72, u73, u74, u75, u76, u77, u78, u79, u80, u81, u82, u83, u84, u85, u86, u87, u88, u89, u90, u91, u92, u93, u94, u95, u96, u97, u98, u99, u100, u101, u102, u103, u104, u105, u106, u107, u108, u109, u110, u111, u112, u113, u114, u115, u116, u117, u118, u119, u120, u121, u122, u123, u124, u125, u126, u127, v128, v129, v130, v131, v132, v133, v134, v135, v136, v137, v138, v139, v140, v141, v142, v143, v144, v145, v146, v147, v148, v149, v150, v151, v152, v153, .bool false, u155], []⟩ W) :
    Code.wp Try.prog cnt43C K ⟨#[u0, u1, u2, u3, u4, u5, u6, .slice A nD cD, u8, u9, u10, u11, u12, u13, u14, u15, u16, .pointer (some ⟨b17, 0, none⟩), .int .i64 m, u19, u20, u21, u22, u23, u24, u25, u26, u27, u28, u29, u30, u31, u32, u33, u34, u35, u36, u37, u38, u39, u40, u41, u42, u43, u44, u45, u46, u47, u48, u49, u50, u51, u52, u53, u54, u55, u56, u57, u58, u59, u60, u61, u62, u63, u64, u65, u66, u67, u68, u69, u70, u71, u72, u73, u74, u75, u76, u77, u78, u79, u80, u81, u82, u83, u84, u85, u86, u87, u88, u89, u90, u91, u92, u93, u94, u95, u96, u97, u98, u99, u100, u101, u102, u103, u104, u105, u106, u107, u108, u109, u110, u111, u112, u113, u114, u115, u116, u117, u118, u119, u120, u121, u122, u123, u124, u125, u126, u127, u128, u129, u130, u131, u132, u133, u134, u135, u136, u137, u138, u139, u140, u141, u142, u143, u144, u145, u146, u147, u148, u149, u150, u151, u152, u153, u154, u155], []⟩ w := by
  have x0 : w.cell? ⟨b17, 0, none⟩ = some (.int .i64 0) := hb.cell 0
  have x1 : w.cell? ⟨b17, 1, none⟩ = some (.int .i64 yi) := hb.cell 1
  have x2 : w.cell? ⟨b17, 2, none⟩ = some (.int .i64 (yc + yn + yd + ys + m)) := hb.cell 2
  have x3 : w.cell? ⟨b17, 3, none⟩ = some (.int .i64 yc) := hb.cell 3
  have x4 : w.cell? ⟨b17, 4, none⟩ = some (.int .i64 yn) := hb.cell 4
  have x5 : w.cell? ⟨b17, 5, none⟩ = some (.int .i64 yd) := hb.cell 5
  have x6 : w.cell? ⟨b17, 6, none⟩ = some (.int .i64 ys) := hb.cell 6
  have HB := Lib.hid hb
  clear hb
  have HC := Lib.hid hC
  clear hC
  conv => arg 2; whnf
  dsimp only at hK ⊢
  go_wp2_with (refine wpList_load_rowG (by rfl) 36 _ rfl b17 rfl 36 _ (0, 0) _ HB.out Try.underlying36 rfl rfl ?_)
  refine HC.out.mono ?_
  rintro e w1 ⟨rfl, k1⟩
  go_wp2_with fail
  exact k1
set_option maxRecDepth 1000000 in
set_option maxHeartbeats 3200000 in
theorem cnt43_1 (w : World) (A : Option Addr) (nD cD b17 : Nat) (yl yi yc yn yd ys m : Int) (K : Exit → Act → World → Prop)
    (hb : Blk w b17 36 #[.int .i64 yl, .int .i64 yi, .int .i64 (yc + yn + yd + ys + m), .int .i64 yc, .int .i64 yn, .int .i64 yd, .int .i64 ys]) (c1 : 0 ≤ yc) (c2 : yc ≤ 1000) (n1 : 0 ≤ yn) (n2 : yn ≤ 1000) (d1 : 0 ≤ yd) (d2 : yd ≤ 1000) (s1 : 0 ≤ ys) (s2 : ys ≤ 1000) (m1 : 0 ≤ m) (m2 : m ≤ 1)
    (hy : ¬ yl = 0)
    (u0 u1 u2 u3 u4 u5 u6 u8 u9 u10 u11 u12 u13 u14 u15 u16 u19 u20 u21 u22 u23 u24 u25 u26 u27 u28 u29 u30 u31 u32 u33 u34 u35 u36 u37 u38 u39 u40 u41 u42 u43 u44 u45 u46 u47 u48 u49 u50 u51 u52 u53 u54 u55 u56 u57 u58 u59 u60 u61 u62 u63 u64 u65 u66 u67 u68 u69 u70 u71 u72 u73 u74 u75 u76 u77 u78 u79 u80 u81 u82 u83 u84 u85 u86 u87 u88 u89 u90 u91 u92 u93 u94 u95 u96 u97 u98 u99 u100 u101 u102 u103 u104 u105 u106 u107 u108 u109 u110 u111 u112 u113 u114 u115 u116 u117 u118 u119 u120 u121 u122 u123 u124 u125 u126 u127 u128 u129 u130 u131 u132 u133 u134 u135 u136 u137 u138 u139 u140 u141 u142 u143 u144 u145 u146 u147 u148 u149 u150 u151 u152 u153 u154 u155 : Value)
    (hK : ∀ (v128 v129 v130 v131 v132 v133 v134 v135 v136 v137 v138 v139 v140 v141 v142 v143 v144 v145 v146 v147 v148 v149 v150 v151 v152 v153 : Value) (W : World), Keeps [] w W → K .normal ⟨#[u0, u1, u2, u3, u4, u5, u6, .slice A nD cD, u8, u9, u10, u11, u12, u13, u14, u15, u16, .pointer (some ⟨b17, 0, none⟩), .int .i64 m, u19, u20, u21, u22, u23, u24, u25, u26, u27, u28, u29, u30, u31, u32, u33, u34, u35, u36, u37, u38, u39, u40, u41, u42, u43, u44, u45, u46, u47, u48, u49, u50, u51, u52, u53, u54, u55, u56, u57, u58, u59, u60, u61, u62, u63, u64, u65, u66, u67, u68, u69, u70, u71, u72, u73, u74, u75, u76, u77, u78, u79, u80, u81, u82, u83, u84, u85, u86, u87, u88, u89, u90, u91, u92, u93, u94, u95, u96, u97, u98, u99, u100, u101, u102, u103, u104, u105, u106, u107, u108, u109, u110, u111, u112, u113, u114, u115, u116, u117, u118, u119, u120, u121, u122, u123, u124, u125, u126, u127, v128, v129, v130, v131, v132, v133, v134, v135, v136, v137, v138, v139, v140, v141, v142, v143, v144, v145, v146, v147, v148, v149, v150, v151, v152, v153, .bool false, u155], []⟩ W) :
    Code.wp Try.prog cnt43C K ⟨#[u0, u1, u2, u3, u4, u5, u6, .slice A nD cD, u8, u9, u10, u11, u12, u13, u14, u15, u16, .pointer (some ⟨b17, 0, none⟩), .int .i64 m, u19, u20, u21, u22, u23, u24, u25, u26, u27, u28, u29, u30, u31, u32, u33, u34, u35, u36, u37, u38, u39, u40, u41, u42, u43, u44, u45, u46, u47, u48, u49, u50, u51, u52, u53, u54, u55, u56, u57, u58, u59, u60, u61, u62, u63, u64, u65, u66, u67, u68, u69, u70, u71, u72, u73, u74, u75, u76, u77, u78, u79, u80, u81, u82, u83, u84, u85, u86, u87, u88, u89, u90, u91, u92, u93, u94, u95, u96, u97, u98, u99, u100, u101, u102, u103, u104, u105, u106, u107, u108, u109, u110, u111, u112, u113, u114, u115, u116, u117, u118, u119, u120, u121, u122, u123, u124, u125, u126, u127, u128, u129, u130, u131, u132, u133, u134, u135, u136, u137, u138, u139, u140, u141, u142, u143, u144, u145, u146, u147, u148, u149, u150, u151, u152, u153, u154, u155], []⟩ w := by
  have x0 : w.cell? ⟨b17, 0, none⟩ = some (.int .i64 yl) := hb.cell 0
  have x1 : w.cell? ⟨b17, 1, none⟩ = some (.int .i64 yi) := hb.cell 1
  have x2 : w.cell? ⟨b17, 2, none⟩ = some (.int .i64 (yc + yn + yd + ys + m)) := hb.cell 2
  have x3 : w.cell? ⟨b17, 3, none⟩ = some (.int .i64 yc) := hb.cell 3
  have x4 : w.cell? ⟨b17, 4, none⟩ = some (.int .i64 yn) := hb.cell 4
  have x5 : w.cell? ⟨b17, 5, none⟩ = some (.int .i64 yd) := hb.cell 5
  have x6 : w.cell? ⟨b17, 6, none⟩ = some (.int .i64 ys) := hb.cell 6
  have HB := Lib.hid hb
  clear hb
  conv => arg 2; whnf
  dsimp only at hK ⊢
  go_wp2_with (refine wpList_load_rowG (by rfl) 36 _ rfl b17 rfl 36 _ (0, 0) _ HB.out Try.underlying36 rfl rfl ?_)
  exact Keeps.refl _ _
end Go.Proofs.Ytcopjjokhjealaa
namespace Go.Proofs.Ytcopjjokhjealaa
open Go.RowKit

/-- The planner stands while a row of counts is written. -/
theorem SV.aside {w0 w w' : World} {F : List Nat} {p : Nat} {s : Pl} {Φ : Nat} (h : SV w0 w F p s Φ) {v : Value} {n : Nat} {xs : List Value} (ho : w.ownsRow 0 36 7 v n xs) (hk : Keeps (fp v) w w') (hf : ∀ g ∈ fp v, w0.heap.size ≤ g) : SV w0 w' F p s Φ := by
  refine ⟨h.r.keep hk (h.off ho (by decide) (by decide)) (fun g hg => ?_), h.f, h.k.trans hk (fun g hg => .inr (hf g hg)), h.v, h.c⟩
  rintro ⟨cs, fr, hr⟩
  obtain ⟨cs', fr', hr'⟩ := own_ty ho g hg
  rw [hr] at hr'
  injection hr' with hr'
  injection hr' with _ hr'
  exact absurd hr' (by decide)
/-- What was done, in memory. -/
def DnAt (w0 w : World) (D : List Ct) (v : Value) : Prop := ∃ A c, v = .slice A D.length c ∧ w.ownsRow 0 36 7 v D.length (rw ccs D) ∧ ∀ g ∈ fp v, w0.heap.size ≤ g
theorem DnAt.nil (w0 w : World) : DnAt w0 w [] (.slice none 0 0) := ⟨none, 0, rfl, World.ownsRow_nil _ _ _ _, by simp⟩
theorem DnAt.keep {w0 w w' : World} {D : List Ct} {v : Value} {F : List Nat} (h : DnAt w0 w D v) (hk : Keeps F w w') (hF : ∀ g ∈ F, ¬ TyRow w 36 g) : DnAt w0 w' D v := by
  obtain ⟨A, c, h1, h2, h3⟩ := h
  exact ⟨A, c, h1, own_keep h2 hk (fun g hg hgF => hF g hgF (own_ty h2 g hg)), h3⟩
theorem DnAt.keep0 {w0 w w' : World} {D : List Ct} {v : Value} (h : DnAt w0 w D v) (hk : Keeps [] w w') : DnAt w0 w' D v := h.keep hk (fun _ hg => by cases hg)
theorem bal_at {D : List Ct} {s : Pl} (hv : Inv NoR s) (hs : SumOk D s) {cs : List Ct} (hk : AllK s.ct cs) {Φ : Nat} (hc : Cap Φ s) {y : Ct} (hy : y ∈ cs) : (y.runs = y.com + y.con + y.drp + y.str + (if runB s.li y.l y.i = true then 1 else 0) ∧ (y.l = 0 → Eq4 (sumC D y.i) y)) ∧ OkM Φ y := by
  have h := (hk.2 y).1 hy
  refine ⟨cnt_right hv hs h.2, ?_⟩
  obtain ⟨M, h1, h2⟩ := hc
  exact (h1 _ _ h.2).mono (by omega)
theorem addK_len (x : Op) (n e : Int) : (addK x n e).toList.length ≤ 1 := by cases addK x n e <;> simp
theorem wrap_mid {a : Int} (h1 : 0 ≤ a) (h2 : a ≤ 1000000) : wrap64 a = a := by unfold wrap64; omega
set_option maxRecDepth 1000000 in
set_option maxHeartbeats 25600000 in
theorem counts_walk (w : World) (A B : Option Addr) (its : List Int) (L : List Op) (ca cb : Nat) (hi : ItsAt w A its) (ho : OpsAt w B L) :
    Calls Try.prog 3 #[.slice A its.length ca, .slice B L.length cb] w fun e w' => e = .returned (.bool true) ∧ Keeps [] w w' := by
  have HI := Lib.hid hi
  have HO := Lib.hid ho
  have mi := hi.mx
  have CS := Lib.hid (small_any w)
  clear hi ho
  go_enter Try.func3, Try.ntmps3
  go_wp2_with fail
  refine CS.out.mono ?_
  rintro e w1 ⟨rfl, k1⟩
  have K1 := Lib.hid k1
  have hao := HO.out.at_.keep k1
  have CF := Lib.hid (few_any w1 B L cb 60 hao)
  have mo := hao.mx
  obtain ⟨V, hV⟩ : ∃ V, fewB L 60 = V := ⟨_, rfl⟩
  rw [hV] at CF
  have HV := Lib.hid hV
  clear hao k1 CS hV
  cases V with
  | false =>
    go_wp2_with fail
    refine CF.out.mono ?_
    rintro e w2 ⟨rfl, rfl⟩
    go_wp2_with fail
    go_ret
    exact ⟨rfl, K1.out⟩
  | true =>
    by_cases hbig : 60 < its.length
    · have hb2 : (60 : Int) < (its.length : Int) := by omega
      go_wp2_with fail
      refine CF.out.mono ?_
      rintro e w2 ⟨rfl, rfl⟩
      go_wp2_with fail
      go_ret
      exact ⟨rfl, K1.out⟩
    · have hb2 : ¬ (60 : Int) < (its.length : Int) := by omega
      obtain ⟨hz, hir⟩ := HI.out.ok (by omega)
      have CN := Lib.hid (new_sv w w1 K1.out A its ca (hz.keep K1.out) hir)
      obtain ⟨hl60, hfew⟩ := few_spec HV.out
      have HFW := Lib.hid hfew
      clear hz hir hfew HI
      go_wp2_with fail
      refine CF.out.mono ?_
      rintro e w2 ⟨rfl, rfl⟩
      go_wp2_with fail
      refine CN.out.mono ?_
      rintro e w3 ⟨F0, p, rfl, hs, -, -⟩
      have H0 := Lib.hid hs
      clear hs CN CF K1
      go_wp2_with fail
      go_loopw [7, 8] (fun dv iv wr => ∃ k : Nat, k ≤ L.length ∧ iv = .int .i64 k ∧ ∃ F s D, SV w wr F p s (1 + 2 * k) ∧ DnAt w wr D dv ∧ SumOk D s ∧ D.length ≤ k ∧ ∀ d ∈ D, OkM 1 d) (fun _ iv _ => L.length - (intOf iv).toNat)
      case atStart => exact ⟨0, by omega, rfl, F0, newS its, [], H0.out, DnAt.nil _ _, fun i => Eq4.refl _, Nat.le_refl _, by simp⟩
      case round =>
        obtain ⟨k, hk, rfl, F, s, D, hs, hdn, hsm, hdl, hdk⟩ := hrel
        have HS := Lib.hid hs
        have HDN := Lib.hid hdn
        have HSM := Lib.hid hsm
        have HDK1 := Lib.hid hdk
        clear hs H0 hdn hsm hdk
        by_cases hlt : k < L.length
        · obtain ⟨bl, off, hBB, hbl, hc⟩ := (HO.out.at_.keep HS.out.k).at_ (by omega)
          subst hBB
          obtain ⟨c0, c1, c2, c3, c4, c5⟩ := hc k hlt
          have i0 : (0 : Int) ≤ (k : Int) := by omega
          have i1 : (k : Int) < (L.length : Int) := by omega
          have hx := HO.out.ok L[k] (List.getElem_mem hlt) (by have := HFW.out L[k] (List.getElem_mem hlt); omega)
          obtain ⟨x, hxx⟩ : ∃ x, L[k] = x := ⟨_, rfl⟩
          rw [hxx] at c0 c1 c2 c3 c4 c5 hx
          have HX := Lib.hid hx
          obtain ⟨Φ, hΦ⟩ : ∃ Φ, 1 + 2 * k = Φ := ⟨_, rfl⟩
          have hΦ2 : Φ + 2 ≤ 800 := by omega
          have HPH := Lib.hid hΦ
          rw [hΦ] at HS
          clear hc hx hxx hΦ
          obtain ⟨b9, hb9⟩ : ∃ b9, wr.heap.size = b9 := ⟨_, rfl⟩
          have ka : Keeps [] wr (wr.alloc (.cells #[.int .i64 x.d, .int .i64 x.l, .int .i64 x.i, .int .i64 x.t, .int .i64 x.pd, .slice x.A x.it.length x.c] 30)) := (Keeps.refl _ _).alloc _
          have b30 := Blk.new wr 30 #[.int .i64 x.d, .int .i64 x.l, .int .i64 x.i, .int .i64 x.t, .int .i64 x.pd, .slice x.A x.it.length x.c]
          have hlt9 : Hid (∀ g ∈ F, g ≠ b9) := Lib.hid (fun g hg e => by have := HS.out.lt g hg; omega)
          have CC := Lib.hid (copy_sv (HS.out.keep0 ka) (by omega))
          have HS1 := Lib.hid (HS.out.keep0 ka)
          have HDN1 := Lib.hid (HDN.out.keep0 ka)
          rw [hb9] at b30
          have B30 := Lib.hid b30
          clear ka b30 HS HDN
          go_wp2_with fail
          try rw [hb9]
          clear hb9
          refine CC.out.mono ?_
          rintro e w4 ⟨F1, p1, rfl, -, k4, -⟩
          have HP := Lib.hid (HS1.out.keep0 k4)
          have HDN4 := Lib.hid (HDN1.out.keep0 k4)
          have B4 := Lib.hid (B30.out.keep k4 (by simp))
          have CD := Lib.hid (do_sv HP.out (by omega) x HX.out.1 HX.out.2)
          clear k4 c0 c1 c2 c3 c4 c5 CC HS1 HDN1 B30
          have c0 : w4.cell? ⟨b9, 0, none⟩ = some (.int .i64 x.d) := B4.out.cell 0
          have c1 : w4.cell? ⟨b9, 1, none⟩ = some (.int .i64 x.l) := B4.out.cell 1
          have c2 : w4.cell? ⟨b9, 2, none⟩ = some (.int .i64 x.i) := B4.out.cell 2
          have c3 : w4.cell? ⟨b9, 3, none⟩ = some (.int .i64 x.t) := B4.out.cell 3
          have c4 : w4.cell? ⟨b9, 4, none⟩ = some (.int .i64 x.pd) := B4.out.cell 4
          have c5 : w4.cell? ⟨b9, 5, none⟩ = some (.slice x.A x.it.length x.c) := B4.out.cell 5
          go_wp2_with fail
          refine CD.out.mono ?_
          rintro e w5 ⟨v, s', o, n, en, F', rfl, hr, -, hs, hkF, -, -⟩
          have HN := Lib.hid hs
          have HDN2 := Lib.hid (HDN4.out.keep hkF (HP.out.noTy (by decide) (by decide)))
          have B9 := Lib.hid (B4.out.keep hkF (fun hg => hlt9.out b9 hg rfl))
          have HR := Lib.hid hr
          have HSM2 := Lib.hid (HSM.out.doR HP.out.v hr)
          clear hs hkF hr HP HDN4 B4 hlt9 CD HSM c0 c1 c2 c3 c4 c5
          have c0 : w5.cell? ⟨b9, 0, none⟩ = some (.int .i64 x.d) := B9.out.cell 0
          have c1 : w5.cell? ⟨b9, 1, none⟩ = some (.int .i64 x.l) := B9.out.cell 1
          have c2 : w5.cell? ⟨b9, 2, none⟩ = some (.int .i64 x.i) := B9.out.cell 2
          go_upto_region 17 with fail
          have HDK0 : dk x = bits .and .i64 x.d 15 := by unfold dk; rw [and_15]
          obtain ⟨q, hq⟩ : ∃ q, bits .and .i64 x.d 15 = q := ⟨_, rfl⟩
          rw [hq] at HDK0 ⊢
          have HQB : Hid (0 ≤ q ∧ q < 16) := Lib.hid (by rw [← HDK0]; unfold dk; omega)
          have HDK := Lib.hid HDK0
          clear HDK0 hq
          obtain ⟨t, ht⟩ : ∃ t, t = (decide (x.l = 0) && decide (en = 0)) := ⟨_, rfl⟩
          have htt : t = true ↔ (x.l = 0 ∧ en = 0) := by rw [ht]; simp
          have HT := Lib.hid htt
          have HT0 := Lib.hid ht
          clear htt ht
          go_cut [63] from 33 to 154 (fun v wc => v = .bool t ∧ wc = w5)
          case first =>
            by_cases h0 : x.l = 0
            · by_cases h1 : en = 0
              · have HXX := Lib.hid (show t = true by rw [HT0.out, decide_eq_true h0, decide_eq_true h1]; rfl)
                clear HT HT0
                go_wp2_with fail
                go_meet
                case rel => rw [HXX.out]; exact ⟨rfl, rfl⟩
              · have HXX := Lib.hid (show t = false by rw [HT0.out, decide_eq_true h0, decide_eq_false h1]; rfl)
                have HXE : Hid ((en == 0) = false) := Lib.hid (by simpa using h1)
                clear HT HT0
                go_wp2_with fail
                go_meet
                case rel => rw [HXX.out]; exact ⟨by first | rfl | rw [HXE.out], rfl⟩
            · have HXX := Lib.hid (show t = false by rw [HT0.out, decide_eq_false h0]; rfl)
              clear HT HT0
              go_wp2_with fail
              go_meet
              case rel => rw [HXX.out]; exact ⟨rfl, rfl⟩
          case rest =>
          obtain ⟨rfl, rfl⟩ := hcut
          clear HT0
          go_upto_if 63 with fail
          go_cut [7] from 33 to 154 (fun v wc => SV w wc F' p s' (Φ + 2) ∧ DnAt w wc (D ++ (addK x n en).toList) v ∧ Blk wc b9 30 #[.int .i64 x.d, .int .i64 x.l, .int .i64 x.i, .int .i64 x.t, .int .i64 x.pd, .slice x.A x.it.length x.c])
          case first =>
            rename World => w5
            cases t with
            | false =>
              have HADD : Hid (addK x n en = none) := Lib.hid (by unfold addK; rw [if_neg (fun h => by have := HT.out.2 h; cases this)])
              go_wp2_with fail
              go_meet
              case rel => exact ⟨HN.out, by rw [HADD.out]; simpa using HDN2.out, B9.out⟩
            | true =>
              obtain ⟨h0l, rfl⟩ := HT.out.1 rfl
              have HI := Lib.hid info36
              have hq16 := HQB.out
              have hqc : q = 0 ∨ q = 1 ∨ q = 2 ∨ q = 3 ∨ q = 4 ∨ q = 5 ∨ q = 6 ∨ q = 7 ∨ q = 8 ∨ q = 9 ∨ q = 10 ∨ q = 11 ∨ q = 12 ∨ q = 13 ∨ q = 14 ∨ q = 15 := by omega
              clear hq16 HQB HT
              rcases hqc with rfl | rfl | rfl | rfl | rfl | rfl | rfl | rfl | rfl | rfl | rfl | rfl | rfl | rfl | rfl | rfl
              · have HADD : Hid (addK x n 0 = some ⟨0, x.i, 1, 0, 0, 0, 0⟩) := Lib.hid (by unfold addK; rw [if_pos ⟨h0l, rfl⟩]; simp only [HDK.out]; rfl)
                obtain ⟨Ad, cd, hvd, hod, hfd⟩ := HDN2.out
                subst hvd
                have ka : Keeps [] w5 (w5.alloc (.cells #[.int .i64 0, .int .i64 x.i, .int .i64 1, .int .i64 0, .int .i64 0, .int .i64 0, .int .i64 0] 36)) := (Keeps.refl _ _).alloc _
                have HO := Lib.hid (own_keep hod ka (by simp))
                have HRD := Lib.hid (reads_cells w5 #[.int .i64 0, .int .i64 x.i, .int .i64 1, .int .i64 0, .int .i64 0, .int .i64 0, .int .i64 0] 1 7 36 rfl)
                have KA := Lib.hid ka
                have HOD := Lib.hid hod
                have HFD := Lib.hid hfd
                clear ka hod hfd
                go_wp2_with (at_builtin; refine wpList_app _ rfl (.tmp 70) (.tmp 74) _ rfl 36 (.agg #[.int .i64 0, .int .i64 0, .int .i64 0, .int .i64 0, .int .i64 0, .int .i64 0, .int .i64 0]) 7 56 Try.underlying28 HI.out rfl (by omega) (.slice Ad D.length cd) _ _ rfl HO.out _ _ _ _ [.int .i64 0, .int .i64 x.i, .int .i64 1, .int .i64 0, .int .i64 0, .int .i64 0, .int .i64 0] rfl HRD.out (by simp [Value.oneCell']) (by unfold maxLen; omega) (by omega) ?_)
                intro v6 w6 o6 k6 f6
                have k56 : Keeps (fp (.slice Ad D.length cd)) w5 w6 := (KA.out.mono (by simp)).trans k6 (fun g hg => .inl hg)
                have h6 := HN.out.aside HOD.out k56 HFD.out
                have b6 := B9.out.keep k56 (own_blk_off HOD.out B9.out (by decide))
                have hd6 : DnAt w w6 (D ++ (addK x n 0).toList) v6 := by
                  obtain ⟨A2, c2, rfl, -, -, -⟩ := own_shape o6
                  rw [HADD.out]
                  refine ⟨A2, c2, ?_, ?_, fun g hg => (f6 g hg).elim (HFD.out g) (fun h => ?_)⟩
                  · simp
                  · have e : rw ccs (D ++ (some (⟨0, x.i, 1, 0, 0, 0, 0⟩ : Ct)).toList) = rw ccs D ++ [.int .i64 0, .int .i64 x.i, .int .i64 1, .int .i64 0, .int .i64 0, .int .i64 0, .int .i64 0] := by
                      show rw ccs (D ++ [_]) = _
                      rw [rw_append]
                      rfl
                    rw [e]
                    simpa using o6
                  · have h1 := HN.out.k.size
                    have h2 := KA.out.size
                    omega
                have H6 := Lib.hid (⟨h6, hd6, b6⟩ : SV w w6 F' p s' (Φ + 2) ∧ DnAt w w6 (D ++ (addK x n 0).toList) v6 ∧ Blk w6 b9 30 #[.int .i64 x.d, .int .i64 x.l, .int .i64 x.i, .int .i64 x.t, .int .i64 x.pd, .slice x.A x.it.length x.c])
                clear h6 hd6 b6 o6 k6 f6 k56 HO HRD KA HOD HFD HADD
                go_wp2_with fail
                go_meet
                case rel => exact H6.out
              · have HADD : Hid (addK x n 0 = some ⟨0, x.i, 1, 0, 0, 0, 0⟩) := Lib.hid (by unfold addK; rw [if_pos ⟨h0l, rfl⟩]; simp only [HDK.out]; rfl)
                obtain ⟨Ad, cd, hvd, hod, hfd⟩ := HDN2.out
                subst hvd
                have ka : Keeps [] w5 (w5.alloc (.cells #[.int .i64 0, .int .i64 x.i, .int .i64 1, .int .i64 0, .int .i64 0, .int .i64 0, .int .i64 0] 36)) := (Keeps.refl _ _).alloc _
                have HO := Lib.hid (own_keep hod ka (by simp))
                have HRD := Lib.hid (reads_cells w5 #[.int .i64 0, .int .i64 x.i, .int .i64 1, .int .i64 0, .int .i64 0, .int .i64 0, .int .i64 0] 1 7 36 rfl)
                have KA := Lib.hid ka
                have HOD := Lib.hid hod
                have HFD := Lib.hid hfd
                clear ka hod hfd
                go_wp2_with (at_builtin; refine wpList_app _ rfl (.tmp 70) (.tmp 74) _ rfl 36 (.agg #[.int .i64 0, .int .i64 0, .int .i64 0, .int .i64 0, .int .i64 0, .int .i64 0, .int .i64 0]) 7 56 Try.underlying28 HI.out rfl (by omega) (.slice Ad D.length cd) _ _ rfl HO.out _ _ _ _ [.int .i64 0, .int .i64 x.i, .int .i64 1, .int .i64 0, .int .i64 0, .int .i64 0, .int .i64 0] rfl HRD.out (by simp [Value.oneCell']) (by unfold maxLen; omega) (by omega) ?_)
                intro v6 w6 o6 k6 f6
                have k56 : Keeps (fp (.slice Ad D.length cd)) w5 w6 := (KA.out.mono (by simp)).trans k6 (fun g hg => .inl hg)
                have h6 := HN.out.aside HOD.out k56 HFD.out
                have b6 := B9.out.keep k56 (own_blk_off HOD.out B9.out (by decide))
                have hd6 : DnAt w w6 (D ++ (addK x n 0).toList) v6 := by
                  obtain ⟨A2, c2, rfl, -, -, -⟩ := own_shape o6
                  rw [HADD.out]
                  refine ⟨A2, c2, ?_, ?_, fun g hg => (f6 g hg).elim (HFD.out g) (fun h => ?_)⟩
                  · simp
                  · have e : rw ccs (D ++ (some (⟨0, x.i, 1, 0, 0, 0, 0⟩ : Ct)).toList) = rw ccs D ++ [.int .i64 0, .int .i64 x.i, .int .i64 1, .int .i64 0, .int .i64 0, .int .i64 0, .int .i64 0] := by
                      show rw ccs (D ++ [_]) = _
                      rw [rw_append]
                      rfl
                    rw [e]
                    simpa using o6
                  · have h1 := HN.out.k.size
                    have h2 := KA.out.size
                    omega
                have H6 := Lib.hid (⟨h6, hd6, b6⟩ : SV w w6 F' p s' (Φ + 2) ∧ DnAt w w6 (D ++ (addK x n 0).toList) v6 ∧ Blk w6 b9 30 #[.int .i64 x.d, .int .i64 x.l, .int .i64 x.i, .int .i64 x.t, .int .i64 x.pd, .slice x.A x.it.length x.c])
                clear h6 hd6 b6 o6 k6 f6 k56 HO HRD KA HOD HFD HADD
                go_wp2_with fail
                go_meet
                case rel => exact H6.out
              · have HADD : Hid (addK x n 0 = some ⟨0, x.i, 1, 0, 0, 0, 0⟩) := Lib.hid (by unfold addK; rw [if_pos ⟨h0l, rfl⟩]; simp only [HDK.out]; rfl)
                obtain ⟨Ad, cd, hvd, hod, hfd⟩ := HDN2.out
                subst hvd
                have ka : Keeps [] w5 (w5.alloc (.cells #[.int .i64 0, .int .i64 x.i, .int .i64 1, .int .i64 0, .int .i64 0, .int .i64 0, .int .i64 0] 36)) := (Keeps.refl _ _).alloc _
                have HO := Lib.hid (own_keep hod ka (by simp))
                have HRD := Lib.hid (reads_cells w5 #[.int .i64 0, .int .i64 x.i, .int .i64 1, .int .i64 0, .int .i64 0, .int .i64 0, .int .i64 0] 1 7 36 rfl)
                have KA := Lib.hid ka
                have HOD := Lib.hid hod
                have HFD := Lib.hid hfd
                clear ka hod hfd
                go_wp2_with (at_builtin; refine wpList_app _ rfl (.tmp 70) (.tmp 74) _ rfl 36 (.agg #[.int .i64 0, .int .i64 0, .int .i64 0, .int .i64 0, .int .i64 0, .int .i64 0, .int .i64 0]) 7 56 Try.underlying28 HI.out rfl (by omega) (.slice Ad D.length cd) _ _ rfl HO.out _ _ _ _ [.int .i64 0, .int .i64 x.i, .int .i64 1, .int .i64 0, .int .i64 0, .int .i64 0, .int .i64 0] rfl HRD.out (by simp [Value.oneCell']) (by unfold maxLen; omega) (by omega) ?_)
                intro v6 w6 o6 k6 f6
                have k56 : Keeps (fp (.slice Ad D.length cd)) w5 w6 := (KA.out.mono (by simp)).trans k6 (fun g hg => .inl hg)
                have h6 := HN.out.aside HOD.out k56 HFD.out
                have b6 := B9.out.keep k56 (own_blk_off HOD.out B9.out (by decide))
                have hd6 : DnAt w w6 (D ++ (addK x n 0).toList) v6 := by
                  obtain ⟨A2, c2, rfl, -, -, -⟩ := own_shape o6
                  rw [HADD.out]
                  refine ⟨A2, c2, ?_, ?_, fun g hg => (f6 g hg).elim (HFD.out g) (fun h => ?_)⟩
                  · simp
                  · have e : rw ccs (D ++ (some (⟨0, x.i, 1, 0, 0, 0, 0⟩ : Ct)).toList) = rw ccs D ++ [.int .i64 0, .int .i64 x.i, .int .i64 1, .int .i64 0, .int .i64 0, .int .i64 0, .int .i64 0] := by
                      show rw ccs (D ++ [_]) = _
                      rw [rw_append]
                      rfl
                    rw [e]
                    simpa using o6
                  · have h1 := HN.out.k.size
                    have h2 := KA.out.size
                    omega
                have H6 := Lib.hid (⟨h6, hd6, b6⟩ : SV w w6 F' p s' (Φ + 2) ∧ DnAt w w6 (D ++ (addK x n 0).toList) v6 ∧ Blk w6 b9 30 #[.int .i64 x.d, .int .i64 x.l, .int .i64 x.i, .int .i64 x.t, .int .i64 x.pd, .slice x.A x.it.length x.c])
                clear h6 hd6 b6 o6 k6 f6 k56 HO HRD KA HOD HFD HADD
                go_wp2_with fail
                go_meet
                case rel => exact H6.out
              · have HADD : Hid (addK x n 0 = some ⟨0, x.i, 1, 0, 0, 0, 0⟩) := Lib.hid (by unfold addK; rw [if_pos ⟨h0l, rfl⟩]; simp only [HDK.out]; rfl)
                obtain ⟨Ad, cd, hvd, hod, hfd⟩ := HDN2.out
                subst hvd
                have ka : Keeps [] w5 (w5.alloc (.cells #[.int .i64 0, .int .i64 x.i, .int .i64 1, .int .i64 0, .int .i64 0, .int .i64 0, .int .i64 0] 36)) := (Keeps.refl _ _).alloc _
                have HO := Lib.hid (own_keep hod ka (by simp))
                have HRD := Lib.hid (reads_cells w5 #[.int .i64 0, .int .i64 x.i, .int .i64 1, .int .i64 0, .int .i64 0, .int .i64 0, .int .i64 0] 1 7 36 rfl)
                have KA := Lib.hid ka
                have HOD := Lib.hid hod
                have HFD := Lib.hid hfd
                clear ka hod hfd
                go_wp2_with (at_builtin; refine wpList_app _ rfl (.tmp 70) (.tmp 74) _ rfl 36 (.agg #[.int .i64 0, .int .i64 0, .int .i64 0, .int .i64 0, .int .i64 0, .int .i64 0, .int .i64 0]) 7 56 Try.underlying28 HI.out rfl (by omega) (.slice Ad D.length cd) _ _ rfl HO.out _ _ _ _ [.int .i64 0, .int .i64 x.i, .int .i64 1, .int .i64 0, .int .i64 0, .int .i64 0, .int .i64 0] rfl HRD.out (by simp [Value.oneCell']) (by unfold maxLen; omega) (by omega) ?_)
                intro v6 w6 o6 k6 f6
                have k56 : Keeps (fp (.slice Ad D.length cd)) w5 w6 := (KA.out.mono (by simp)).trans k6 (fun g hg => .inl hg)
                have h6 := HN.out.aside HOD.out k56 HFD.out
                have b6 := B9.out.keep k56 (own_blk_off HOD.out B9.out (by decide))
                have hd6 : DnAt w w6 (D ++ (addK x n 0).toList) v6 := by
                  obtain ⟨A2, c2, rfl, -, -, -⟩ := own_shape o6
                  rw [HADD.out]
                  refine ⟨A2, c2, ?_, ?_, fun g hg => (f6 g hg).elim (HFD.out g) (fun h => ?_)⟩
                  · simp
                  · have e : rw ccs (D ++ (some (⟨0, x.i, 1, 0, 0, 0, 0⟩ : Ct)).toList) = rw ccs D ++ [.int .i64 0, .int .i64 x.i, .int .i64 1, .int .i64 0, .int .i64 0, .int .i64 0, .int .i64 0] := by
                      show rw ccs (D ++ [_]) = _
                      rw [rw_append]
                      rfl
                    rw [e]
                    simpa using o6
                  · have h1 := HN.out.k.size
                    have h2 := KA.out.size
                    omega
                have H6 := Lib.hid (⟨h6, hd6, b6⟩ : SV w w6 F' p s' (Φ + 2) ∧ DnAt w w6 (D ++ (addK x n 0).toList) v6 ∧ Blk w6 b9 30 #[.int .i64 x.d, .int .i64 x.l, .int .i64 x.i, .int .i64 x.t, .int .i64 x.pd, .slice x.A x.it.length x.c])
                clear h6 hd6 b6 o6 k6 f6 k56 HO HRD KA HOD HFD HADD
                go_wp2_with fail
                go_meet
                case rel => exact H6.out
              · have HADD : Hid (addK x n 0 = none) := Lib.hid (by unfold addK; rw [if_pos ⟨h0l, rfl⟩]; simp only [HDK.out]; rfl)
                go_wp2_with fail
                go_meet
                case rel => exact ⟨HN.out, by rw [HADD.out]; simpa using HDN2.out, B9.out⟩
              · have HADD : Hid (addK x n 0 = none) := Lib.hid (by unfold addK; rw [if_pos ⟨h0l, rfl⟩]; simp only [HDK.out]; rfl)
                go_wp2_with fail
                go_meet
                case rel => exact ⟨HN.out, by rw [HADD.out]; simpa using HDN2.out, B9.out⟩
              · have HADD : Hid (addK x n 0 = some ⟨0, x.i, 0, 1, 0, 0, 0⟩) := Lib.hid (by unfold addK; rw [if_pos ⟨h0l, rfl⟩]; simp only [HDK.out]; rfl)
                obtain ⟨Ad, cd, hvd, hod, hfd⟩ := HDN2.out
                subst hvd
                have ka : Keeps [] w5 (w5.alloc (.cells #[.int .i64 0, .int .i64 x.i, .int .i64 0, .int .i64 1, .int .i64 0, .int .i64 0, .int .i64 0] 36)) := (Keeps.refl _ _).alloc _
                have HO := Lib.hid (own_keep hod ka (by simp))
                have HRD := Lib.hid (reads_cells w5 #[.int .i64 0, .int .i64 x.i, .int .i64 0, .int .i64 1, .int .i64 0, .int .i64 0, .int .i64 0] 1 7 36 rfl)
                have KA := Lib.hid ka
                have HOD := Lib.hid hod
                have HFD := Lib.hid hfd
                clear ka hod hfd
                go_wp2_with (at_builtin; refine wpList_app _ rfl (.tmp 88) (.tmp 92) _ rfl 36 (.agg #[.int .i64 0, .int .i64 0, .int .i64 0, .int .i64 0, .int .i64 0, .int .i64 0, .int .i64 0]) 7 56 Try.underlying28 HI.out rfl (by omega) (.slice Ad D.length cd) _ _ rfl HO.out _ _ _ _ [.int .i64 0, .int .i64 x.i, .int .i64 0, .int .i64 1, .int .i64 0, .int .i64 0, .int .i64 0] rfl HRD.out (by simp [Value.oneCell']) (by unfold maxLen; omega) (by omega) ?_)
                intro v6 w6 o6 k6 f6
                have k56 : Keeps (fp (.slice Ad D.length cd)) w5 w6 := (KA.out.mono (by simp)).trans k6 (fun g hg => .inl hg)
                have h6 := HN.out.aside HOD.out k56 HFD.out
                have b6 := B9.out.keep k56 (own_blk_off HOD.out B9.out (by decide))
                have hd6 : DnAt w w6 (D ++ (addK x n 0).toList) v6 := by
                  obtain ⟨A2, c2, rfl, -, -, -⟩ := own_shape o6
                  rw [HADD.out]
                  refine ⟨A2, c2, ?_, ?_, fun g hg => (f6 g hg).elim (HFD.out g) (fun h => ?_)⟩
                  · simp
                  · have e : rw ccs (D ++ (some (⟨0, x.i, 0, 1, 0, 0, 0⟩ : Ct)).toList) = rw ccs D ++ [.int .i64 0, .int .i64 x.i, .int .i64 0, .int .i64 1, .int .i64 0, .int .i64 0, .int .i64 0] := by
                      show rw ccs (D ++ [_]) = _
                      rw [rw_append]
                      rfl
                    rw [e]
                    simpa using o6
                  · have h1 := HN.out.k.size
                    have h2 := KA.out.size
                    omega
                have H6 := Lib.hid (⟨h6, hd6, b6⟩ : SV w w6 F' p s' (Φ + 2) ∧ DnAt w w6 (D ++ (addK x n 0).toList) v6 ∧ Blk w6 b9 30 #[.int .i64 x.d, .int .i64 x.l, .int .i64 x.i, .int .i64 x.t, .int .i64 x.pd, .slice x.A x.it.length x.c])
                clear h6 hd6 b6 o6 k6 f6 k56 HO HRD KA HOD HFD HADD
                go_wp2_with fail
                go_meet
                case rel => exact H6.out
              · have HADD : Hid (addK x n 0 = some ⟨0, x.i, 0, 0, 1, 0, 0⟩) := Lib.hid (by unfold addK; rw [if_pos ⟨h0l, rfl⟩]; simp only [HDK.out]; rfl)
                obtain ⟨Ad, cd, hvd, hod, hfd⟩ := HDN2.out
                subst hvd
                have ka : Keeps [] w5 (w5.alloc (.cells #[.int .i64 0, .int .i64 x.i, .int .i64 0, .int .i64 0, .int .i64 1, .int .i64 0, .int .i64 0] 36)) := (Keeps.refl _ _).alloc _
                have HO := Lib.hid (own_keep hod ka (by simp))
                have HRD := Lib.hid (reads_cells w5 #[.int .i64 0, .int .i64 x.i, .int .i64 0, .int .i64 0, .int .i64 1, .int .i64 0, .int .i64 0] 1 7 36 rfl)
                have KA := Lib.hid ka
                have HOD := Lib.hid hod
                have HFD := Lib.hid hfd
                clear ka hod hfd
                go_wp2_with (at_builtin; refine wpList_app _ rfl (.tmp 96) (.tmp 100) _ rfl 36 (.agg #[.int .i64 0, .int .i64 0, .int .i64 0, .int .i64 0, .int .i64 0, .int .i64 0, .int .i64 0]) 7 56 Try.underlying28 HI.out rfl (by omega) (.slice Ad D.length cd) _ _ rfl HO.out _ _ _ _ [.int .i64 0, .int .i64 x.i, .int .i64 0, .int .i64 0, .int .i64 1, .int .i64 0, .int .i64 0] rfl HRD.out (by simp [Value.oneCell']) (by unfold maxLen; omega) (by omega) ?_)
                intro v6 w6 o6 k6 f6
                have k56 : Keeps (fp (.slice Ad D.length cd)) w5 w6 := (KA.out.mono (by simp)).trans k6 (fun g hg => .inl hg)
                have h6 := HN.out.aside HOD.out k56 HFD.out
                have b6 := B9.out.keep k56 (own_blk_off HOD.out B9.out (by decide))
                have hd6 : DnAt w w6 (D ++ (addK x n 0).toList) v6 := by
                  obtain ⟨A2, c2, rfl, -, -, -⟩ := own_shape o6
                  rw [HADD.out]
                  refine ⟨A2, c2, ?_, ?_, fun g hg => (f6 g hg).elim (HFD.out g) (fun h => ?_)⟩
                  · simp
                  · have e : rw ccs (D ++ (some (⟨0, x.i, 0, 0, 1, 0, 0⟩ : Ct)).toList) = rw ccs D ++ [.int .i64 0, .int .i64 x.i, .int .i64 0, .int .i64 0, .int .i64 1, .int .i64 0, .int .i64 0] := by
                      show rw ccs (D ++ [_]) = _
                      rw [rw_append]
                      rfl
                    rw [e]
                    simpa using o6
                  · have h1 := HN.out.k.size
                    have h2 := KA.out.size
                    omega
                have H6 := Lib.hid (⟨h6, hd6, b6⟩ : SV w w6 F' p s' (Φ + 2) ∧ DnAt w w6 (D ++ (addK x n 0).toList) v6 ∧ Blk w6 b9 30 #[.int .i64 x.d, .int .i64 x.l, .int .i64 x.i, .int .i64 x.t, .int .i64 x.pd, .slice x.A x.it.length x.c])
                clear h6 hd6 b6 o6 k6 f6 k56 HO HRD KA HOD HFD HADD
                go_wp2_with fail
                go_meet
                case rel => exact H6.out
              · have HADD : Hid (addK x n 0 = some ⟨0, x.i, 0, 0, 0, 1, 0⟩) := Lib.hid (by unfold addK; rw [if_pos ⟨h0l, rfl⟩]; simp only [HDK.out]; rfl)
                obtain ⟨Ad, cd, hvd, hod, hfd⟩ := HDN2.out
                subst hvd
                have ka : Keeps [] w5 (w5.alloc (.cells #[.int .i64 0, .int .i64 x.i, .int .i64 0, .int .i64 0, .int .i64 0, .int .i64 1, .int .i64 0] 36)) := (Keeps.refl _ _).alloc _
                have HO := Lib.hid (own_keep hod ka (by simp))
                have HRD := Lib.hid (reads_cells w5 #[.int .i64 0, .int .i64 x.i, .int .i64 0, .int .i64 0, .int .i64 0, .int .i64 1, .int .i64 0] 1 7 36 rfl)
                have KA := Lib.hid ka
                have HOD := Lib.hid hod
                have HFD := Lib.hid hfd
                clear ka hod hfd
                go_wp2_with (at_builtin; refine wpList_app _ rfl (.tmp 104) (.tmp 108) _ rfl 36 (.agg #[.int .i64 0, .int .i64 0, .int .i64 0, .int .i64 0, .int .i64 0, .int .i64 0, .int .i64 0]) 7 56 Try.underlying28 HI.out rfl (by omega) (.slice Ad D.length cd) _ _ rfl HO.out _ _ _ _ [.int .i64 0, .int .i64 x.i, .int .i64 0, .int .i64 0, .int .i64 0, .int .i64 1, .int .i64 0] rfl HRD.out (by simp [Value.oneCell']) (by unfold maxLen; omega) (by omega) ?_)
                intro v6 w6 o6 k6 f6
                have k56 : Keeps (fp (.slice Ad D.length cd)) w5 w6 := (KA.out.mono (by simp)).trans k6 (fun g hg => .inl hg)
                have h6 := HN.out.aside HOD.out k56 HFD.out
                have b6 := B9.out.keep k56 (own_blk_off HOD.out B9.out (by decide))
                have hd6 : DnAt w w6 (D ++ (addK x n 0).toList) v6 := by
                  obtain ⟨A2, c2, rfl, -, -, -⟩ := own_shape o6
                  rw [HADD.out]
                  refine ⟨A2, c2, ?_, ?_, fun g hg => (f6 g hg).elim (HFD.out g) (fun h => ?_)⟩
                  · simp
                  · have e : rw ccs (D ++ (some (⟨0, x.i, 0, 0, 0, 1, 0⟩ : Ct)).toList) = rw ccs D ++ [.int .i64 0, .int .i64 x.i, .int .i64 0, .int .i64 0, .int .i64 0, .int .i64 1, .int .i64 0] := by
                      show rw ccs (D ++ [_]) = _
                      rw [rw_append]
                      rfl
                    rw [e]
                    simpa using o6
                  · have h1 := HN.out.k.size
                    have h2 := KA.out.size
                    omega
                have H6 := Lib.hid (⟨h6, hd6, b6⟩ : SV w w6 F' p s' (Φ + 2) ∧ DnAt w w6 (D ++ (addK x n 0).toList) v6 ∧ Blk w6 b9 30 #[.int .i64 x.d, .int .i64 x.l, .int .i64 x.i, .int .i64 x.t, .int .i64 x.pd, .slice x.A x.it.length x.c])
                clear h6 hd6 b6 o6 k6 f6 k56 HO HRD KA HOD HFD HADD
                go_wp2_with fail
                go_meet
                case rel => exact H6.out
              · have HADD : Hid (addK x n 0 = none) := Lib.hid (by unfold addK; rw [if_pos ⟨h0l, rfl⟩]; simp only [HDK.out]; rfl)
                go_wp2_with fail
                go_meet
                case rel => exact ⟨HN.out, by rw [HADD.out]; simpa using HDN2.out, B9.out⟩
              · have HADD : Hid (addK x n 0 = none) := Lib.hid (by unfold addK; rw [if_pos ⟨h0l, rfl⟩]; simp only [HDK.out]; rfl)
                go_wp2_with fail
                go_meet
                case rel => exact ⟨HN.out, by rw [HADD.out]; simpa using HDN2.out, B9.out⟩
              · have HADD : Hid (addK x n 0 = none) := Lib.hid (by unfold addK; rw [if_pos ⟨h0l, rfl⟩]; simp only [HDK.out]; rfl)
                go_wp2_with fail
                go_meet
                case rel => exact ⟨HN.out, by rw [HADD.out]; simpa using HDN2.out, B9.out⟩
              · have HADD : Hid (addK x n 0 = some ⟨0, n, 1, 0, 0, 0, 0⟩) := Lib.hid (by unfold addK; rw [if_pos ⟨h0l, rfl⟩]; simp only [HDK.out]; rfl)
                obtain ⟨Ad, cd, hvd, hod, hfd⟩ := HDN2.out
                subst hvd
                have ka : Keeps [] w5 (w5.alloc (.cells #[.int .i64 0, .int .i64 n, .int .i64 1, .int .i64 0, .int .i64 0, .int .i64 0, .int .i64 0] 36)) := (Keeps.refl _ _).alloc _
                have HO := Lib.hid (own_keep hod ka (by simp))
                have HRD := Lib.hid (reads_cells w5 #[.int .i64 0, .int .i64 n, .int .i64 1, .int .i64 0, .int .i64 0, .int .i64 0, .int .i64 0] 1 7 36 rfl)
                have KA := Lib.hid ka
                have HOD := Lib.hid hod
                have HFD := Lib.hid hfd
                clear ka hod hfd
                go_wp2_with (at_builtin; refine wpList_app _ rfl (.tmp 81) (.tmp 84) _ rfl 36 (.agg #[.int .i64 0, .int .i64 0, .int .i64 0, .int .i64 0, .int .i64 0, .int .i64 0, .int .i64 0]) 7 56 Try.underlying28 HI.out rfl (by omega) (.slice Ad D.length cd) _ _ rfl HO.out _ _ _ _ [.int .i64 0, .int .i64 n, .int .i64 1, .int .i64 0, .int .i64 0, .int .i64 0, .int .i64 0] rfl HRD.out (by simp [Value.oneCell']) (by unfold maxLen; omega) (by omega) ?_)
                intro v6 w6 o6 k6 f6
                have k56 : Keeps (fp (.slice Ad D.length cd)) w5 w6 := (KA.out.mono (by simp)).trans k6 (fun g hg => .inl hg)
                have h6 := HN.out.aside HOD.out k56 HFD.out
                have b6 := B9.out.keep k56 (own_blk_off HOD.out B9.out (by decide))
                have hd6 : DnAt w w6 (D ++ (addK x n 0).toList) v6 := by
                  obtain ⟨A2, c2, rfl, -, -, -⟩ := own_shape o6
                  rw [HADD.out]
                  refine ⟨A2, c2, ?_, ?_, fun g hg => (f6 g hg).elim (HFD.out g) (fun h => ?_)⟩
                  · simp
                  · have e : rw ccs (D ++ (some (⟨0, n, 1, 0, 0, 0, 0⟩ : Ct)).toList) = rw ccs D ++ [.int .i64 0, .int .i64 n, .int .i64 1, .int .i64 0, .int .i64 0, .int .i64 0, .int .i64 0] := by
                      show rw ccs (D ++ [_]) = _
                      rw [rw_append]
                      rfl
                    rw [e]
                    simpa using o6
                  · have h1 := HN.out.k.size
                    have h2 := KA.out.size
                    omega
                have H6 := Lib.hid (⟨h6, hd6, b6⟩ : SV w w6 F' p s' (Φ + 2) ∧ DnAt w w6 (D ++ (addK x n 0).toList) v6 ∧ Blk w6 b9 30 #[.int .i64 x.d, .int .i64 x.l, .int .i64 x.i, .int .i64 x.t, .int .i64 x.pd, .slice x.A x.it.length x.c])
                clear h6 hd6 b6 o6 k6 f6 k56 HO HRD KA HOD HFD HADD
                go_wp2_with fail
                go_meet
                case rel => exact H6.out
              · have HADD : Hid (addK x n 0 = some ⟨0, n, 1, 0, 0, 0, 0⟩) := Lib.hid (by unfold addK; rw [if_pos ⟨h0l, rfl⟩]; simp only [HDK.out]; rfl)
                obtain ⟨Ad, cd, hvd, hod, hfd⟩ := HDN2.out
                subst hvd
                have ka : Keeps [] w5 (w5.alloc (.cells #[.int .i64 0, .int .i64 n, .int .i64 1, .int .i64 0, .int .i64 0, .int .i64 0, .int .i64 0] 36)) := (Keeps.refl _ _).alloc _
                have HO := Lib.hid (own_keep hod ka (by simp))
                have HRD := Lib.hid (reads_cells w5 #[.int .i64 0, .int .i64 n, .int .i64 1, .int .i64 0, .int .i64 0, .int .i64 0, .int .i64 0] 1 7 36 rfl)
                have KA := Lib.hid ka
                have HOD := Lib.hid hod
                have HFD := Lib.hid hfd
                clear ka hod hfd
                go_wp2_with (at_builtin; refine wpList_app _ rfl (.tmp 81) (.tmp 84) _ rfl 36 (.agg #[.int .i64 0, .int .i64 0, .int .i64 0, .int .i64 0, .int .i64 0, .int .i64 0, .int .i64 0]) 7 56 Try.underlying28 HI.out rfl (by omega) (.slice Ad D.length cd) _ _ rfl HO.out _ _ _ _ [.int .i64 0, .int .i64 n, .int .i64 1, .int .i64 0, .int .i64 0, .int .i64 0, .int .i64 0] rfl HRD.out (by simp [Value.oneCell']) (by unfold maxLen; omega) (by omega) ?_)
                intro v6 w6 o6 k6 f6
                have k56 : Keeps (fp (.slice Ad D.length cd)) w5 w6 := (KA.out.mono (by simp)).trans k6 (fun g hg => .inl hg)
                have h6 := HN.out.aside HOD.out k56 HFD.out
                have b6 := B9.out.keep k56 (own_blk_off HOD.out B9.out (by decide))
                have hd6 : DnAt w w6 (D ++ (addK x n 0).toList) v6 := by
                  obtain ⟨A2, c2, rfl, -, -, -⟩ := own_shape o6
                  rw [HADD.out]
                  refine ⟨A2, c2, ?_, ?_, fun g hg => (f6 g hg).elim (HFD.out g) (fun h => ?_)⟩
                  · simp
                  · have e : rw ccs (D ++ (some (⟨0, n, 1, 0, 0, 0, 0⟩ : Ct)).toList) = rw ccs D ++ [.int .i64 0, .int .i64 n, .int .i64 1, .int .i64 0, .int .i64 0, .int .i64 0, .int .i64 0] := by
                      show rw ccs (D ++ [_]) = _
                      rw [rw_append]
                      rfl
                    rw [e]
                    simpa using o6
                  · have h1 := HN.out.k.size
                    have h2 := KA.out.size
                    omega
                have H6 := Lib.hid (⟨h6, hd6, b6⟩ : SV w w6 F' p s' (Φ + 2) ∧ DnAt w w6 (D ++ (addK x n 0).toList) v6 ∧ Blk w6 b9 30 #[.int .i64 x.d, .int .i64 x.l, .int .i64 x.i, .int .i64 x.t, .int .i64 x.pd, .slice x.A x.it.length x.c])
                clear h6 hd6 b6 o6 k6 f6 k56 HO HRD KA HOD HFD HADD
                go_wp2_with fail
                go_meet
                case rel => exact H6.out
              · have HADD : Hid (addK x n 0 = some ⟨0, n, 1, 0, 0, 0, 0⟩) := Lib.hid (by unfold addK; rw [if_pos ⟨h0l, rfl⟩]; simp only [HDK.out]; rfl)
                obtain ⟨Ad, cd, hvd, hod, hfd⟩ := HDN2.out
                subst hvd
                have ka : Keeps [] w5 (w5.alloc (.cells #[.int .i64 0, .int .i64 n, .int .i64 1, .int .i64 0, .int .i64 0, .int .i64 0, .int .i64 0] 36)) := (Keeps.refl _ _).alloc _
                have HO := Lib.hid (own_keep hod ka (by simp))
                have HRD := Lib.hid (reads_cells w5 #[.int .i64 0, .int .i64 n, .int .i64 1, .int .i64 0, .int .i64 0, .int .i64 0, .int .i64 0] 1 7 36 rfl)
                have KA := Lib.hid ka
                have HOD := Lib.hid hod
                have HFD := Lib.hid hfd
                clear ka hod hfd
                go_wp2_with (at_builtin; refine wpList_app _ rfl (.tmp 81) (.tmp 84) _ rfl 36 (.agg #[.int .i64 0, .int .i64 0, .int .i64 0, .int .i64 0, .int .i64 0, .int .i64 0, .int .i64 0]) 7 56 Try.underlying28 HI.out rfl (by omega) (.slice Ad D.length cd) _ _ rfl HO.out _ _ _ _ [.int .i64 0, .int .i64 n, .int .i64 1, .int .i64 0, .int .i64 0, .int .i64 0, .int .i64 0] rfl HRD.out (by simp [Value.oneCell']) (by unfold maxLen; omega) (by omega) ?_)
                intro v6 w6 o6 k6 f6
                have k56 : Keeps (fp (.slice Ad D.length cd)) w5 w6 := (KA.out.mono (by simp)).trans k6 (fun g hg => .inl hg)
                have h6 := HN.out.aside HOD.out k56 HFD.out
                have b6 := B9.out.keep k56 (own_blk_off HOD.out B9.out (by decide))
                have hd6 : DnAt w w6 (D ++ (addK x n 0).toList) v6 := by
                  obtain ⟨A2, c2, rfl, -, -, -⟩ := own_shape o6
                  rw [HADD.out]
                  refine ⟨A2, c2, ?_, ?_, fun g hg => (f6 g hg).elim (HFD.out g) (fun h => ?_)⟩
                  · simp
                  · have e : rw ccs (D ++ (some (⟨0, n, 1, 0, 0, 0, 0⟩ : Ct)).toList) = rw ccs D ++ [.int .i64 0, .int .i64 n, .int .i64 1, .int .i64 0, .int .i64 0, .int .i64 0, .int .i64 0] := by
                      show rw ccs (D ++ [_]) = _
                      rw [rw_append]
                      rfl
                    rw [e]
                    simpa using o6
                  · have h1 := HN.out.k.size
                    have h2 := KA.out.size
                    omega
                have H6 := Lib.hid (⟨h6, hd6, b6⟩ : SV w w6 F' p s' (Φ + 2) ∧ DnAt w w6 (D ++ (addK x n 0).toList) v6 ∧ Blk w6 b9 30 #[.int .i64 x.d, .int .i64 x.l, .int .i64 x.i, .int .i64 x.t, .int .i64 x.pd, .slice x.A x.it.length x.c])
                clear h6 hd6 b6 o6 k6 f6 k56 HO HRD KA HOD HFD HADD
                go_wp2_with fail
                go_meet
                case rel => exact H6.out
              · have HADD : Hid (addK x n 0 = some ⟨0, n, 1, 0, 0, 0, 0⟩) := Lib.hid (by unfold addK; rw [if_pos ⟨h0l, rfl⟩]; simp only [HDK.out]; rfl)
                obtain ⟨Ad, cd, hvd, hod, hfd⟩ := HDN2.out
                subst hvd
                have ka : Keeps [] w5 (w5.alloc (.cells #[.int .i64 0, .int .i64 n, .int .i64 1, .int .i64 0, .int .i64 0, .int .i64 0, .int .i64 0] 36)) := (Keeps.refl _ _).alloc _
                have HO := Lib.hid (own_keep hod ka (by simp))
                have HRD := Lib.hid (reads_cells w5 #[.int .i64 0, .int .i64 n, .int .i64 1, .int .i64 0, .int .i64 0, .int .i64 0, .int .i64 0] 1 7 36 rfl)
                have KA := Lib.hid ka
                have HOD := Lib.hid hod
                have HFD := Lib.hid hfd
                clear ka hod hfd
                go_wp2_with (at_builtin; refine wpList_app _ rfl (.tmp 81) (.tmp 84) _ rfl 36 (.agg #[.int .i64 0, .int .i64 0, .int .i64 0, .int .i64 0, .int .i64 0, .int .i64 0, .int .i64 0]) 7 56 Try.underlying28 HI.out rfl (by omega) (.slice Ad D.length cd) _ _ rfl HO.out _ _ _ _ [.int .i64 0, .int .i64 n, .int .i64 1, .int .i64 0, .int .i64 0, .int .i64 0, .int .i64 0] rfl HRD.out (by simp [Value.oneCell']) (by unfold maxLen; omega) (by omega) ?_)
                intro v6 w6 o6 k6 f6
                have k56 : Keeps (fp (.slice Ad D.length cd)) w5 w6 := (KA.out.mono (by simp)).trans k6 (fun g hg => .inl hg)
                have h6 := HN.out.aside HOD.out k56 HFD.out
                have b6 := B9.out.keep k56 (own_blk_off HOD.out B9.out (by decide))
                have hd6 : DnAt w w6 (D ++ (addK x n 0).toList) v6 := by
                  obtain ⟨A2, c2, rfl, -, -, -⟩ := own_shape o6
                  rw [HADD.out]
                  refine ⟨A2, c2, ?_, ?_, fun g hg => (f6 g hg).elim (HFD.out g) (fun h => ?_)⟩
                  · simp
                  · have e : rw ccs (D ++ (some (⟨0, n, 1, 0, 0, 0, 0⟩ : Ct)).toList) = rw ccs D ++ [.int .i64 0, .int .i64 n, .int .i64 1, .int .i64 0, .int .i64 0, .int .i64 0, .int .i64 0] := by
                      show rw ccs (D ++ [_]) = _
                      rw [rw_append]
                      rfl
                    rw [e]
                    simpa using o6
                  · have h1 := HN.out.k.size
                    have h2 := KA.out.size
                    omega
                have H6 := Lib.hid (⟨h6, hd6, b6⟩ : SV w w6 F' p s' (Φ + 2) ∧ DnAt w w6 (D ++ (addK x n 0).toList) v6 ∧ Blk w6 b9 30 #[.int .i64 x.d, .int .i64 x.l, .int .i64 x.i, .int .i64 x.t, .int .i64 x.pd, .slice x.A x.it.length x.c])
                clear h6 hd6 b6 o6 k6 f6 k56 HO HRD KA HOD HFD HADD
                go_wp2_with fail
                go_meet
                case rel => exact H6.out
          case rest =>
          obtain ⟨h6, hd6, -⟩ := hcut
          rename World => w6
          obtain ⟨D2, hD2⟩ : ∃ D2, D ++ (addK x n en).toList = D2 := ⟨_, rfl⟩
          have hD2l : D2.length ≤ k + 1 := by rw [← hD2, List.length_append]; have := addK_len x n en; omega
          have HDK2 : Hid (∀ d ∈ D2, OkM 1 d) := Lib.hid (by
            intro d hd
            rw [← hD2] at hd
            rcases List.mem_append.1 hd with hd | hd
            · exact HDK1.out d hd
            · exact addK_ok (by simpa using hd))
          rw [hD2] at hd6 HSM2
          have HN6 := Lib.hid h6
          have HD6 := Lib.hid hd6
          have CK := Lib.hid (counts_sv h6 hΦ2)
          clear hD2 h6 hd6 HN HDN2 HR HDK HQB HT HDK1 B9 c0 c1 c2
          go_wp2_with fail
          refine CK.out.mono ?_
          rintro e w7 ⟨A7, c7, cs, rfl, hal, ho7, k7, hcl⟩
          have HN7 := Lib.hid (HN6.out.keep0 k7)
          have HD7 := Lib.hid (HD6.out.keep0 k7)
          have HA7 := Lib.hid (AtC.of_own ho7 hcl)
          have HAL := Lib.hid hal
          have hcm := hcl
          clear hal ho7 k7 hcl CK HN6 HD6
          go_wp2_with fail
          go_loopw [16] (fun jv wq => ∃ j : Nat, j ≤ cs.length ∧ jv = .int .i64 j ∧ Keeps [] w7 wq) (fun jv _ => cs.length - (intOf jv).toNat)
          case atStart => exact ⟨0, by omega, rfl, Keeps.refl _ _⟩
          case round =>
            obtain ⟨j, hj, rfl, kj⟩ := hrel
            have KJ := Lib.hid kj
            by_cases hjl : j < cs.length
            · obtain ⟨b8, o8, hA8, hb8, hc8⟩ := (HA7.out.keep kj).at_ (by omega)
              subst hA8
              obtain ⟨⟨hbal, hsum⟩, hok⟩ := bal_at HN7.out.v HSM2.out HAL.out HN7.out.c (List.getElem_mem hjl)
              have g0 := hc8 j hjl 0 (by omega) _ rfl
              rw [Nat.add_zero] at g0
              have g1 := hc8 j hjl 1 (by omega) _ rfl
              have g2 := hc8 j hjl 2 (by omega) _ rfl
              have g3 := hc8 j hjl 3 (by omega) _ rfl
              have g4 := hc8 j hjl 4 (by omega) _ rfl
              have g5 := hc8 j hjl 5 (by omega) _ rfl
              have g6 := hc8 j hjl 6 (by omega) _ rfl
              obtain ⟨y, hy⟩ : ∃ y, cs[j] = y := ⟨_, rfl⟩
              rw [hy] at hbal hsum hok g0 g1 g2 g3 g4 g5 g6
              obtain ⟨yl, yi, yr, yc, yn, yd, ys⟩ := y
              obtain ⟨-, q1, q2, q3, q4⟩ := hok
              dsimp only at hbal hsum g0 g1 g2 g3 g4 g5 g6 q1 q2 q3 q4
              obtain ⟨bb, hbb⟩ : ∃ bb, runB s'.li yl yi = bb := ⟨_, rfl⟩
              rw [hbb] at hbal
              have j0 : (0 : Int) ≤ (j : Int) := by omega
              have j1 : (j : Int) < (cs.length : Int) := by omega
              have ky : Keeps [] wr (wr.alloc (.cells #[.int .i64 yl, .int .i64 yi, .int .i64 yr, .int .i64 yc, .int .i64 yn, .int .i64 yd, .int .i64 ys] 36)) := (Keeps.refl _ _).alloc _
              have by17 := Blk.new wr 36 #[.int .i64 yl, .int .i64 yi, .int .i64 yr, .int .i64 yc, .int .i64 yn, .int .i64 yd, .int .i64 ys]
              have K7 := Lib.hid (KJ.out.trans ky (by simp))
              have CR0 := runs_sv (HN7.out.keep0 K7.out) hΦ2 yl yi
              rw [hbb] at CR0
              have CR := Lib.hid CR0
              have BY := Lib.hid by17
              have HSUM := Lib.hid hsum
              have HBAL := Lib.hid hbal
              have HQ1 := Lib.hid (And.intro q1 (And.intro q2 (And.intro q3 q4)))
              clear hsum hbal kj ky by17 CR0 hbb hy hc8 q1 q2 q3 q4
              go_wp2_with fail
              refine CR.out.mono ?_
              rintro e w8 ⟨rfl, k8⟩
              have K8 := Lib.hid (K7.out.trans k8 (by simp))
              have B8 := BY.out.keep k8 (by simp)
              obtain ⟨b17, hb17⟩ : ∃ b17, wr.heap.size = b17 := ⟨_, rfl⟩
              rw [hb17] at B8
              try rw [hb17]
              have hD8 := HD7.out.keep0 K8.out
              obtain ⟨Ad, cd, hvd, hod, -⟩ := hD8
              have hCS : Hid (yl = 0 → Calls Try.prog 13 #[.slice Ad D2.length cd, .agg #[.int .i64 yl, .int .i64 yi, .int .i64 yr, .int .i64 yc, .int .i64 yn, .int .i64 yd, .int .i64 ys]] w8 fun e w' => e = .returned (.bool true) ∧ Keeps [] w8 w') := Lib.hid (fun h0 => summed_any w8 Ad D2 cd ⟨yl, yi, yr, yc, yn, yd, ys⟩ (AtC.of_own (by rw [hvd] at hod; exact hod) (by omega)) HDK2.out (HSUM.out h0))
              subst hvd
              have B8H := Lib.hid B8
              clear hod k8 B8 BY CR K7 hb17 HSUM
              cases bb with
              | true =>
                obtain rfl : yr = yc + yn + yd + ys + 1 := HBAL.out
                clear HBAL
                by_cases hy0 : yl = 0
                · subst hy0
                  have CS := Lib.hid (hCS.out rfl)
                  clear hCS
                  go_upto_region 43 with fail
                  refine cnt43_0 w8 Ad D2.length cd b17 yi yc yn yd ys 1 _ B8H.out (by have := HQ1.out.1.1; omega) (by have := HQ1.out.1.2; omega) (by have := HQ1.out.2.1.1; omega) (by have := HQ1.out.2.1.2; omega) (by have := HQ1.out.2.2.1.1; omega) (by have := HQ1.out.2.2.1.2; omega) (by have := HQ1.out.2.2.2.1; omega) (by have := HQ1.out.2.2.2.2; omega) (by omega) (by omega) CS.out _ _ _ _ _ _ _ _ _ _ _ _ _ _ _ _ _ _ _ _ _ _ _ _ _ _ _ _ _ _ _ _ _ _ _ _ _ _ _ _ _ _ _ _ _ _ _ _ _ _ _ _ _ _ _ _ _ _ _ _ _ _ _ _ _ _ _ _ _ _ _ _ _ _ _ _ _ _ _ _ _ _ _ _ _ _ _ _ _ _ _ _ _ _ _ _ _ _ _ _ _ _ _ _ _ _ _ _ _ _ _ _ _ _ _ _ _ _ _ _ _ _ _ _ _ _ _ _ _ _ _ _ _ _ _ _ _ _ _ _ _ _ _ _ _ _ _ _ _ _ _ _ _ ?_
                  intro v128 v129 v130 v131 v132 v133 v134 v135 v136 v137 v138 v139 v140 v141 v142 v143 v144 v145 v146 v147 v148 v149 v150 v151 v152 v153 w9 k9
                  have K9 := Lib.hid (K8.out.trans k9 (by simp))
                  clear k9 CS K8 B8H HQ1
                  go_wp2_with fail
                  go_roundw
                  case rel => exact ⟨j + 1, by omega, by go_num, K9.out⟩
                  case measure => simp [intOf]; omega
                · clear hCS
                  go_upto_region 43 with fail
                  refine cnt43_1 w8 Ad D2.length cd b17 yl yi yc yn yd ys 1 _ B8H.out (by have := HQ1.out.1.1; omega) (by have := HQ1.out.1.2; omega) (by have := HQ1.out.2.1.1; omega) (by have := HQ1.out.2.1.2; omega) (by have := HQ1.out.2.2.1.1; omega) (by have := HQ1.out.2.2.1.2; omega) (by have := HQ1.out.2.2.2.1; omega) (by have := HQ1.out.2.2.2.2; omega) (by omega) (by omega) hy0 _ _ _ _ _ _ _ _ _ _ _ _ _ _ _ _ _ _ _ _ _ _ _ _ _ _ _ _ _ _ _ _ _ _ _ _ _ _ _ _ _ _ _ _ _ _ _ _ _ _ _ _ _ _ _ _ _ _ _ _ _ _ _ _ _ _ _ _ _ _ _ _ _ _ _ _ _ _ _ _ _ _ _ _ _ _ _ _ _ _ _ _ _ _ _ _ _ _ _ _ _ _ _ _ _ _ _ _ _ _ _ _ _ _ _ _ _ _ _ _ _ _ _ _ _ _ _ _ _ _ _ _ _ _ _ _ _ _ _ _ _ _ _ _ _ _ _ _ _ _ _ _ _ ?_
                  intro v128 v129 v130 v131 v132 v133 v134 v135 v136 v137 v138 v139 v140 v141 v142 v143 v144 v145 v146 v147 v148 v149 v150 v151 v152 v153 w9 k9
                  have K9 := Lib.hid (K8.out.trans k9 (by simp))
                  clear k9 K8 B8H HQ1 hy0
                  go_wp2_with fail
                  go_roundw
                  case rel => exact ⟨j + 1, by omega, by go_num, K9.out⟩
                  case measure => simp [intOf]; omega
              | false =>
                obtain rfl : yr = yc + yn + yd + ys + 0 := HBAL.out
                clear HBAL
                by_cases hy0 : yl = 0
                · subst hy0
                  have CS := Lib.hid (hCS.out rfl)
                  clear hCS
                  go_upto_region 43 with fail
                  refine cnt43_0 w8 Ad D2.length cd b17 yi yc yn yd ys 0 _ B8H.out (by have := HQ1.out.1.1; omega) (by have := HQ1.out.1.2; omega) (by have := HQ1.out.2.1.1; omega) (by have := HQ1.out.2.1.2; omega) (by have := HQ1.out.2.2.1.1; omega) (by have := HQ1.out.2.2.1.2; omega) (by have := HQ1.out.2.2.2.1; omega) (by have := HQ1.out.2.2.2.2; omega) (by omega) (by omega) CS.out _ _ _ _ _ _ _ _ _ _ _ _ _ _ _ _ _ _ _ _ _ _ _ _ _ _ _ _ _ _ _ _ _ _ _ _ _ _ _ _ _ _ _ _ _ _ _ _ _ _ _ _ _ _ _ _ _ _ _ _ _ _ _ _ _ _ _ _ _ _ _ _ _ _ _ _ _ _ _ _ _ _ _ _ _ _ _ _ _ _ _ _ _ _ _ _ _ _ _ _ _ _ _ _ _ _ _ _ _ _ _ _ _ _ _ _ _ _ _ _ _ _ _ _ _ _ _ _ _ _ _ _ _ _ _ _ _ _ _ _ _ _ _ _ _ _ _ _ _ _ _ _ _ ?_
                  intro v128 v129 v130 v131 v132 v133 v134 v135 v136 v137 v138 v139 v140 v141 v142 v143 v144 v145 v146 v147 v148 v149 v150 v151 v152 v153 w9 k9
                  have K9 := Lib.hid (K8.out.trans k9 (by simp))
                  clear k9 CS K8 B8H HQ1
                  go_wp2_with fail
                  go_roundw
                  case rel => exact ⟨j + 1, by omega, by go_num, K9.out⟩
                  case measure => simp [intOf]; omega
                · clear hCS
                  go_upto_region 43 with fail
                  refine cnt43_1 w8 Ad D2.length cd b17 yl yi yc yn yd ys 0 _ B8H.out (by have := HQ1.out.1.1; omega) (by have := HQ1.out.1.2; omega) (by have := HQ1.out.2.1.1; omega) (by have := HQ1.out.2.1.2; omega) (by have := HQ1.out.2.2.1.1; omega) (by have := HQ1.out.2.2.1.2; omega) (by have := HQ1.out.2.2.2.1; omega) (by have := HQ1.out.2.2.2.2; omega) (by omega) (by omega) hy0 _ _ _ _ _ _ _ _ _ _ _ _ _ _ _ _ _ _ _ _ _ _ _ _ _ _ _ _ _ _ _ _ _ _ _ _ _ _ _ _ _ _ _ _ _ _ _ _ _ _ _ _ _ _ _ _ _ _ _ _ _ _ _ _ _ _ _ _ _ _ _ _ _ _ _ _ _ _ _ _ _ _ _ _ _ _ _ _ _ _ _ _ _ _ _ _ _ _ _ _ _ _ _ _ _ _ _ _ _ _ _ _ _ _ _ _ _ _ _ _ _ _ _ _ _ _ _ _ _ _ _ _ _ _ _ _ _ _ _ _ _ _ _ _ _ _ _ _ _ _ _ _ _ ?_
                  intro v128 v129 v130 v131 v132 v133 v134 v135 v136 v137 v138 v139 v140 v141 v142 v143 v144 v145 v146 v147 v148 v149 v150 v151 v152 v153 w9 k9
                  have K9 := Lib.hid (K8.out.trans k9 (by simp))
                  clear k9 K8 B8H HQ1 hy0
                  go_wp2_with fail
                  go_roundw
                  case rel => exact ⟨j + 1, by omega, by go_num, K9.out⟩
                  case measure => simp [intOf]; omega
            · obtain rfl : j = cs.length := by omega
              go_wp2_with fail
              go_roundw
              case rel => exact ⟨k + 1, by omega, by go_num, F', s', D2, (HN7.out.keep0 KJ.out).mono (by have := HPH.out; omega), HD7.out.keep0 KJ.out, HSM2.out, hD2l, HDK2.out⟩
              case measure => simp [intOf]; omega
        · obtain rfl : k = L.length := by omega
          go_wp2_with fail
          go_ret
          exact ⟨rfl, HS.out.k⟩
end Go.Proofs.Ytcopjjokhjealaa
