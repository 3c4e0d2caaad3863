/- The reference: New; Nest's drawn statement. -/
import Derived.Test.YtcopjjokhjealaaGreatN12
namespace Go.Proofs.YtcopjjokhjealaaGreat
open Go.RowKit

theorem reads_z {w : World} {A : Option Addr} {L : List Int} (h : AtZ w A L) : Reads w w.heap.size 1 A L.length (zs L) := by
  refine ⟨by unfold zs; simp, fun h0 => ?_⟩
  obtain ⟨b, off, rfl, hb, hc⟩ := h.at_ h0
  refine ⟨_, rfl, hb, fun j u hu => ?_⟩
  rw [add_of_plain]
  unfold zs at hu
  rw [List.getElem?_map] at hu
  by_cases hj : j < L.length
  · rw [List.getElem?_eq_getElem hj] at hu
    injection hu with hu
    rw [← hu]
    exact hc j hj
  · rw [List.getElem?_eq_none (by omega)] at hu; cases hu
theorem fpmap {A : Option Addr} {n c : Nat} {w : World} {xs : List Value} (h : w.ownsRow 0 3 1 (.slice A n c) n xs) : ∃ b : Option Nat, A = b.map fun g => (⟨g, 0, none⟩ : Addr) := by
  rcases h.2 with ⟨hv, _⟩ | ⟨g, cap, cur, hv, _⟩
  · injection hv with h1; exact ⟨none, h1⟩
  · injection hv with h1; exact ⟨some g, h1⟩
set_option maxRecDepth 100000 in
set_option maxHeartbeats 6400000 in
theorem newQ_any (w : World) (A : Option Addr) (L : List Int) (c : Nat) (hcap : L.length ≤ c) (ha : AtZ w A L) :
    Calls Tryz.prog 7 #[.slice A L.length c] w fun e w' => ∃ q G, e = .returned (.pointer (some ⟨q, 0, none⟩)) ∧ QR w' G q (newS L) 1 0 ∧ Keeps [] w w' ∧ ∀ g ∈ G, w.heap.size ≤ g := by
  have HA := Lib.hid ha
  have HI := Lib.hid info3
  have RQ := Lib.hid (rightQ_any w A L c hcap ha)
  obtain ⟨A', c', L', hAL, hL, ha'⟩ : ∃ A' c' L', (if rightL L then Value.slice A L.length c else .slice none 0 0) = .slice A' (L' : List Int).length c' ∧ (if rightL L then L else []) = L' ∧ AtZ w A' L' := by
    by_cases hr : rightL L = true
    · exact ⟨A, c, L, by rw [if_pos hr], by rw [if_pos hr], ha⟩
    · exact ⟨none, 0, [], by rw [if_neg hr]; rfl, by rw [if_neg hr], ⟨fun h => by simp at h, by simp⟩⟩
  have hm := ha'.mx
  have HA2 := Lib.hid ha'
  have fin : ∀ (w1 w6 : World) (v6 : Value), Keeps [] w w1 → w6.ownsRow 0 3 1 v6 L'.length (zs L') → Keeps [] w1 w6 → (∀ g ∈ fp v6, w1.heap.size ≤ g) →
      ∃ A6 c6, v6 = .slice A6 L'.length c6 ∧ ∃ q G, QR ((w6.alloc (.cells #[.int .i64 0, .int .i64 0, .int .i64 1, v6] 56)).alloc (.cells #[.slice (some ⟨w6.heap.size, 0, none⟩) 1 1, .slice none 0 0, .slice none 0 0] 65)) G q (newS L) 1 0 ∧ q = w6.heap.size + 1 ∧ ∀ g ∈ G, w.heap.size ≤ g := by
    intro w1 w6 v6 k1 o6 k6 f6
    obtain ⟨A6, c6, rfl, -, -, -⟩ := own_shape o6
    obtain ⟨b6, rfl⟩ := fpmap o6
    refine ⟨_, c6, rfl, w6.heap.size + 1, (w6.heap.size + 1) :: [w6.heap.size], ⟨[⟨0, 0, 1, b6, L'.length, c6⟩], [], some ⟨w6.heap.size, 0, none⟩, none, none, 1, 0, 0, ?_, by simp, by simp⟩, rfl, fun g hg => ?_⟩
    · have b1 := (Blk.new w6 56 #[.int .i64 0, .int .i64 0, .int .i64 1, .slice (b6.map fun g => (⟨g, 0, none⟩ : Addr)) L'.length c6]).alloc (.cells #[.slice (some ⟨w6.heap.size, 0, none⟩) 1 1, .slice none 0 0, .slice none 0 0] 65)
      have b2 := Blk.new (w6.alloc (.cells #[.int .i64 0, .int .i64 0, .int .i64 1, .slice (b6.map fun g => (⟨g, 0, none⟩ : Addr)) L'.length c6] 56)) 65 #[.slice (some ⟨w6.heap.size, 0, none⟩) 1 1, .slice none 0 0, .slice none 0 0]
      have e1 : (w6.alloc (.cells #[.int .i64 0, .int .i64 0, .int .i64 1, .slice (b6.map fun g => (⟨g, 0, none⟩ : Addr)) L'.length c6] 56)).heap.size = w6.heap.size + 1 := by simp
      rw [e1] at b2
      have hn : (newS L).ln 0 = some ⟨0, 1, L'⟩ := by rw [← hL]; show updG (fun _ => none) 0 (some _) (0 : Int) = _; rw [updG_same]
      refine QAt.mk' (by simp [fp, Value.ownBlock]) b2 (own_of_blk b1 (by simp) (by unfold maxLen; simp) rfl rfl) (World.ownsRow_nil _ _ _ _) (World.ownsRow_nil _ _ _ _) ⟨by unfold Asc; simp, fun v hv => ?_, fun x hx => ?_⟩ ⟨.nil, (fun c hc => by cases hc), (fun k c hk => by cases hk)⟩
      · rw [List.mem_singleton.1 hv]
        exact ⟨_, hn, rfl, rfl, rfl, rfl, own_keep o6 (((Keeps.refl [] w6).alloc _).alloc _) (by simp)⟩
      · by_cases e : x = 0
        · simp [e]
        · exfalso
          have hx : (updG (fun _ => none) 0 (some _) x : Option Ln).isSome = true := hx
          rw [updG_ne _ _ e] at hx
          cases hx
    · have := k1.size
      have := k6.size
      rcases List.mem_cons.1 hg with rfl | hg
      · omega
      · rw [List.mem_singleton.1 hg]; omega
  have FIN := Lib.hid fin
  clear fin ha ha'
  cases hr : rightL L with
  | true =>
    rw [hr] at hAL RQ
    simp only [if_true, Value.slice.injEq] at hAL
    rw [hr] at hL
    simp only [if_true] at hL
    subst hL
    obtain ⟨rfl, -, rfl⟩ := hAL
    clear hr
    go_enter Tryz.func7, Tryz.ntmps7
    go_wp2_with fail
    refine RQ.out.mono ?_
    rintro e w1 ⟨rfl, k1⟩
    have K1 := Lib.hid k1
    clear k1
    have KA : Hid (Keeps [] w1 (w1.alloc (.cells #[] 3))) := Lib.hid ((Keeps.refl [] w1).alloc _)
    have HE : Hid ((w1.alloc (.cells #[] 3)).ownsRow 0 3 1 (.slice (some ⟨w1.heap.size, 0, none⟩) 0 0) 0 []) := Lib.hid (own_of_blk (Blk.new w1 3 #[]) (by omega) (by omega) rfl rfl)
    go_wp2_with (at_builtin; refine wpList_app _ rfl (.tmp 6) (.tmp 7) _ rfl 3 (.int .i64 0) 1 8 Tryz.underlying22 HI.out rfl (by omega) (.slice (some ⟨w1.heap.size, 0, none⟩) 0 0) 0 [] rfl HE.out _ A _ _ (zs L) rfl (reads_z (HA2.out.keep (K1.out.trans KA.out (by simp)))) (zs_one _) (by unfold maxLen; omega) (by omega) ?_)
    intro v6 w6 o6 k6 f6
    have KX : Hid (Keeps [] w1 w6) := Lib.hid (KA.out.trans k6 (fun g hg => .inr (by simp at hg; omega)))
    have F6 : Hid (∀ g ∈ fp v6, w1.heap.size ≤ g) := Lib.hid (fun g hg => (f6 g hg).elim (fun h => by omega) (fun h => by omega))
    obtain ⟨A6, c6, rfl, q, G, hq, hqe, hG⟩ := FIN.out w1 w6 v6 K1.out (by simpa [zs] using o6) KX.out F6.out
    have HQ := Lib.hid hq
    have HG := Lib.hid hG
    subst hqe
    clear hq hG o6 k6 f6 KA HE FIN
    go_wp2_with fail
    go_ret
    exact ⟨_, G, rfl, HQ.out, ((K1.out.trans KX.out (by simp)).alloc _).alloc _, HG.out⟩
  | false =>
    rw [hr] at hAL RQ
    simp only [Bool.false_eq_true, if_false, Value.slice.injEq] at hAL
    rw [hr] at hL
    simp only [Bool.false_eq_true, if_false] at hL
    subst hL
    obtain ⟨rfl, -, rfl⟩ := hAL
    clear hr
    go_enter Tryz.func7, Tryz.ntmps7
    go_wp2_with fail
    refine RQ.out.mono ?_
    rintro e w1 ⟨rfl, k1⟩
    have K1 := Lib.hid k1
    clear k1
    have KA : Hid (Keeps [] w1 (w1.alloc (.cells #[] 3))) := Lib.hid ((Keeps.refl [] w1).alloc _)
    have HE : Hid ((w1.alloc (.cells #[] 3)).ownsRow 0 3 1 (.slice (some ⟨w1.heap.size, 0, none⟩) 0 0) 0 []) := Lib.hid (own_of_blk (Blk.new w1 3 #[]) (by omega) (by omega) rfl rfl)
    go_wp2_with (at_builtin; refine wpList_app _ rfl (.tmp 6) (.tmp 7) _ rfl 3 (.int .i64 0) 1 8 Tryz.underlying22 HI.out rfl (by omega) (.slice (some ⟨w1.heap.size, 0, none⟩) 0 0) 0 [] rfl HE.out 0 none 0 _ [] rfl Reads.none_ (by simp) (by unfold maxLen; omega) (by omega) ?_)
    intro v6 w6 o6 k6 f6
    have KX : Hid (Keeps [] w1 w6) := Lib.hid (KA.out.trans k6 (fun g hg => .inr (by simp at hg; omega)))
    have F6 : Hid (∀ g ∈ fp v6, w1.heap.size ≤ g) := Lib.hid (fun g hg => (f6 g hg).elim (fun h => by omega) (fun h => by omega))
    obtain ⟨A6, c6, rfl, q, G, hq, hqe, hG⟩ := FIN.out w1 w6 v6 K1.out (by simpa [zs] using o6) KX.out F6.out
    have HQ := Lib.hid hq
    have HG := Lib.hid hG
    subst hqe
    clear hq hG o6 k6 f6 KA HE FIN
    go_wp2_with fail
    go_ret
    exact ⟨_, G, rfl, HQ.out, ((K1.out.trans KX.out (by simp)).alloc _).alloc _, HG.out⟩
noncomputable def nq18C : Code := ((Tryz.f33.body.bind (theRegion 18)).getD .skip)
set_option maxRecDepth 1000000 in
set_option maxHeartbeats 1600000 in
set_option linter.unusedSimpArgs false in
theorem nq18_any (w : World) (p : Nat) (par pid id : Int) (Az : Option Addr) (nz cz : Nat) (xsz : List Value) (n i c m2 c2 N3 : Nat) (A B : Option Addr) (xs1 xs2 : List Value) (K : Exit → Act → World → Prop) (hi : i ≤ n) (hn : n ≤ 1000000) (hm2 : m2 ≤ n) (hN3 : 0 + i + 1 + m2 = N3)
    (hS : ∀ W, Keeps [] w W → W.cell? ⟨p, 0, none⟩ = some (.slice A n c)) (hF : ∀ W, Keeps [] w W → W.frozen? ⟨p, 0, none⟩ = false)
    (hs1 : ∀ W, (Instr.slice 62 (.slice A n c) none (some (.int .i64 i)) none).run Tryz.prog W = .ok (.slice A i c) W) (hs2 : ∀ W, (Instr.slice 62 (.slice A n c) (some (.int .i64 i)) none none).run Tryz.prog W = .ok (.slice B m2 c2) W)
    (hr1 : ∀ W, Keeps [] w W → Reads W W.heap.size 4 A i xs1) (hr2 : ∀ W, Keeps [] w W → Reads W W.heap.size 4 B m2 xs2) (h1 : ∀ u ∈ xs1, u.oneCell' = true) (h2 : ∀ u ∈ xs2, u.oneCell' = true)
    (hrz : ∀ W, Keeps [] w W → Reads W W.heap.size 1 Az nz xsz) (hz1 : ∀ u ∈ xsz, u.oneCell' = true) (hnz : nz ≤ 1000000)
    (u4 u5 u6 u7 u8 u9 u10 u13 u14 u15 u16 u17 u18 u19 u20 u21 u22 u23 u24 u25 u26 u27 u28 u29 u30 u31 u32 u33 u34 u35 u36 u37 u38 u39 u40 u41 u42 u43 u44 u45 u46 u47 u48 u49 u50 u51 u52 u53 u54 u55 u56 u57 u58 u59 u60 u61 u62 u63 u64 u65 u66 u67 u68 u69 u70 u71 u72 u73 u74 u75 u76 u77 u78 u79 u80 u81 u82 u83 u84 u85 u86 u87 u88 u89 u90 u91 u92 u93 u94 u95 u96 u97 u98 u99 u100 u101 u102 u103 u104 u105 u106 u107 u108 u109 u110 u111 : Value)
    (hK : ∀ (v84 v85 v86 v87 v88 v89 v90 v91 v92 v93 v94 v95 v96 v97 v98 v99 v100 v101 v102 v103 v104 v105 v106 v107 v108 v109 v110 : Value) (Ai : Option Addr) (ci : Nat) (v3 : Value) (W : World), W.ownsRow 0 56 4 v3 N3 ([] ++ xs1 ++ [.int .i64 id, .int .i64 par, .int .i64 pid, .slice Ai nz ci] ++ xs2) → W.ownsRow 0 3 1 (.slice Ai nz ci) nz ([] ++ xsz) → (∀ g ∈ fp (.slice Ai nz ci), w.heap.size ≤ g) → Keeps [] w W → (∀ g ∈ fp v3, w.heap.size ≤ g) → K .normal ⟨#[.pointer (some ⟨p, 0, none⟩), .int .i64 par, .int .i64 pid, .slice Az nz cz, u4, u5, u6, u7, u8, u9, u10, .int .i64 id, .int .i64 i, u13, u14, u15, u16, u17, u18, u19, u20, u21, u22, u23, u24, u25, u26, u27, u28, u29, u30, u31, u32, u33, u34, u35, u36, u37, u38, u39, u40, u41, u42, u43, u44, u45, u46, u47, u48, u49, u50, u51, u52, u53, u54, u55, u56, u57, u58, u59, u60, u61, u62, u63, u64, u65, u66, u67, u68, u69, u70, u71, u72, u73, u74, u75, u76, u77, u78, u79, u80, u81, u82, u83, v84, v85, v86, v87, v88, v89, v90, v91, v92, v93, v94, v95, v96, v97, v98, v99, v100, v101, v102, v103, v104, v105, v106, v107, v108, v109, v110, u111], []⟩ (W.setCell ⟨p, 0, none⟩ v3)) :
    Code.wp Tryz.prog nq18C K ⟨#[.pointer (some ⟨p, 0, none⟩), .int .i64 par, .int .i64 pid, .slice Az nz cz, u4, u5, u6, u7, u8, u9, u10, .int .i64 id, .int .i64 i, u13, u14, u15, u16, u17, u18, u19, u20, u21, u22, u23, u24, u25, u26, u27, u28, u29, u30, u31, u32, u33, u34, u35, u36, u37, u38, u39, u40, u41, u42, u43, u44, u45, u46, u47, u48, u49, u50, u51, u52, u53, u54, u55, u56, u57, u58, u59, u60, u61, u62, u63, u64, u65, u66, u67, u68, u69, u70, u71, u72, u73, u74, u75, u76, u77, u78, u79, u80, u81, u82, u83, u84, u85, u86, u87, u88, u89, u90, u91, u92, u93, u94, u95, u96, u97, u98, u99, u100, u101, u102, u103, u104, u105, u106, u107, u108, u109, u110, u111], []⟩ w := by
  have HS := Lib.hid hS
  have HF := Lib.hid hF
  have HR1 := Lib.hid hr1
  have HR2 := Lib.hid hr2
  have H1 := Lib.hid h1
  have H2 := Lib.hid h2
  have HI := Lib.hid info56
  have HN3 := Lib.hid hN3
  have HRZ := Lib.hid hrz
  have HZ1 := Lib.hid hz1
  have HI3 := Lib.hid info3
  have HNZ : Hid (0 + nz = nz) := Lib.hid (Nat.zero_add nz)
  clear hrz hz1
  clear hS hF hr1 hr2 h1 h2 hN3
  conv => arg 2; whnf
  try dsimp only at hK ⊢
  refine wp_region_noPanic ?_
  refine wp_region_last (S := fun W => W.cell? ⟨p, 0, none⟩ = some (.slice A n c)) 27 (by kernel_rfl) (HS.out _ ((Keeps.refl [] w).drew)) (fun hHeld => ?_)
  obtain ⟨w0, hw0⟩ : ∃ w0, w.drew = w0 := ⟨_, rfl⟩
  try rw [hw0] at hHeld
  rw [hw0]
  have K0 : Keeps [] w w0 := by rw [← hw0]; exact (Keeps.refl [] w).drew
  clear hw0
  refine wpG_take (nx := [25, 8, 3, 4, 5, 7, 7, 8, 14, 15, 15, 15, 14, 14, 15, 16, 17, 24, 19, 20, 21, 23, 23, 24, 25, 26, 27]) (i := 0) (oi := ⟨some 84, Op.move (Operand.tmp 0), 28, _, _, none⟩) (v := ?vq106) (by kernel_rfl) rfl (by decide) (by kernel_rfl) (by kernel_rfl) (by kernel_rfl) (fun _ _ _ h => h) (Or.inl ⟨by rfl, fun W hW => ?_⟩) (by assumption) ?_
  rotate_left
  · go_simp
    with_reducible rfl
  try simp only [Act.put, List.setIfInBounds_toArray, List.set_cons_zero, List.set_cons_succ]
  refine wpG_take (nx := [25, 8, 3, 4, 5, 7, 7, 8, 14, 15, 15, 15, 14, 14, 15, 16, 17, 24, 19, 20, 21, 23, 23, 24, 25, 26, 27]) (i := 2) (oi := ⟨some 86, Op.move (Operand.tmp 0), 28, _, _, none⟩) (v := ?vq107) (by kernel_rfl) rfl (by decide) (by kernel_rfl) (by kernel_rfl) (by kernel_rfl) (fun _ _ _ h => h) (Or.inl ⟨by rfl, fun W hW => ?_⟩) (by assumption) ?_
  rotate_left
  · go_simp
    with_reducible rfl
  try simp only [Act.put, List.setIfInBounds_toArray, List.set_cons_zero, List.set_cons_succ]
  refine wpG_take (nx := [25, 8, 3, 4, 5, 7, 7, 8, 14, 15, 15, 15, 14, 14, 15, 16, 17, 24, 19, 20, 21, 23, 23, 24, 25, 26, 27]) (i := 3) (oi := ⟨some 87, Op.nilCheck (Operand.tmp 86), 0, _, _, none⟩) (v := ?vq108) (by kernel_rfl) rfl (by decide) (by kernel_rfl) (by kernel_rfl) (by kernel_rfl) (fun _ _ _ h => h) (Or.inl ⟨by rfl, fun W hW => ?_⟩) (by assumption) ?_
  rotate_left
  · go_simp
    with_reducible rfl
  try simp only [Act.put, List.setIfInBounds_toArray, List.set_cons_zero, List.set_cons_succ]
  refine wpG_take (nx := [25, 8, 3, 4, 5, 7, 7, 8, 14, 15, 15, 15, 14, 14, 15, 16, 17, 24, 19, 20, 21, 23, 23, 24, 25, 26, 27]) (i := 4) (oi := ⟨some 88, Op.fieldAddr 65 (Operand.tmp 87) 0, 0, _, _, none⟩) (v := ?vq109) (by kernel_rfl) rfl (by decide) (by kernel_rfl) (by kernel_rfl) (by kernel_rfl) (fun _ _ _ h => h) (Or.inl ⟨by rfl, fun W hW => ?_⟩) (by assumption) ?_
  rotate_left
  · go_simp
    with_reducible rfl
  try simp only [Act.put, List.setIfInBounds_toArray, List.set_cons_zero, List.set_cons_succ]
  refine wpG_take (nx := [25, 8, 3, 4, 5, 7, 7, 8, 14, 15, 15, 15, 14, 14, 15, 16, 17, 24, 19, 20, 21, 23, 23, 24, 25, 26, 27]) (i := 5) (oi := ⟨some 89, Op.load 62 (Operand.tmp 88), 62, _, _, none⟩) (v := .slice A n c) (by kernel_rfl) rfl (by decide) (by kernel_rfl) (by kernel_rfl) (by kernel_rfl) (fun _ _ _ h => h) (Or.inl ⟨by rfl, fun W hW => ?_⟩) (by assumption) ?_
  · go_simp
  try simp only [Act.put, List.setIfInBounds_toArray, List.set_cons_zero, List.set_cons_succ]
  refine wpG_take (nx := [25, 8, 3, 4, 5, 7, 7, 8, 14, 15, 15, 15, 14, 14, 15, 16, 17, 24, 19, 20, 21, 23, 23, 24, 25, 26, 27]) (i := 6) (oi := ⟨some 90, Op.move (Operand.tmp 12), 3, _, _, none⟩) (v := ?vq110) (by kernel_rfl) rfl (by decide) (by kernel_rfl) (by kernel_rfl) (by kernel_rfl) (fun _ _ _ h => h) (Or.inl ⟨by rfl, fun W hW => ?_⟩) (by assumption) ?_
  rotate_left
  · go_simp
    with_reducible rfl
  try simp only [Act.put, List.setIfInBounds_toArray, List.set_cons_zero, List.set_cons_succ]
  refine wpG_take (nx := [25, 8, 3, 4, 5, 7, 7, 8, 14, 15, 15, 15, 14, 14, 15, 16, 17, 24, 19, 20, 21, 23, 23, 24, 25, 26, 27]) (i := 7) (oi := ⟨some 91, Op.slice 62 (Operand.tmp 89) none (some (Operand.tmp 90)) none, 62, _, _, none⟩) (v := .slice A i c) (by kernel_rfl) rfl (by decide) (by kernel_rfl) (by kernel_rfl) (by kernel_rfl) (fun _ _ _ h => h) (Or.inl ⟨by rfl, fun W hW => ?_⟩) (by assumption) ?_
  · go_simp
  try simp only [Act.put, List.setIfInBounds_toArray, List.set_cons_zero, List.set_cons_succ]
  refine wpG_take (nx := [25, 8, 3, 4, 5, 7, 7, 8, 14, 15, 15, 15, 14, 14, 15, 16, 17, 24, 19, 20, 21, 23, 23, 24, 25, 26, 27]) (i := 9) (oi := ⟨some 93, Op.move (Operand.tmp 11), 3, _, _, none⟩) (v := ?vq111) (by kernel_rfl) rfl (by decide) (by kernel_rfl) (by kernel_rfl) (by kernel_rfl) (fun _ _ _ h => h) (Or.inl ⟨by rfl, fun W hW => ?_⟩) (by assumption) ?_
  rotate_left
  · go_simp
    with_reducible rfl
  try simp only [Act.put, List.setIfInBounds_toArray, List.set_cons_zero, List.set_cons_succ]
  refine wpG_take (nx := [25, 8, 3, 4, 5, 7, 7, 8, 14, 15, 15, 15, 14, 14, 15, 16, 17, 24, 19, 20, 21, 23, 23, 24, 25, 26, 27]) (i := 10) (oi := ⟨some 94, Op.move (Operand.tmp 1), 3, _, _, none⟩) (v := ?vq112) (by kernel_rfl) rfl (by decide) (by kernel_rfl) (by kernel_rfl) (by kernel_rfl) (fun _ _ _ h => h) (Or.inl ⟨by rfl, fun W hW => ?_⟩) (by assumption) ?_
  rotate_left
  · go_simp
    with_reducible rfl
  try simp only [Act.put, List.setIfInBounds_toArray, List.set_cons_zero, List.set_cons_succ]
  refine wpG_take (nx := [25, 8, 3, 4, 5, 7, 7, 8, 14, 15, 15, 15, 14, 14, 15, 16, 17, 24, 19, 20, 21, 23, 23, 24, 25, 26, 27]) (i := 11) (oi := ⟨some 95, Op.move (Operand.tmp 2), 3, _, _, none⟩) (v := ?vq113) (by kernel_rfl) rfl (by decide) (by kernel_rfl) (by kernel_rfl) (by kernel_rfl) (fun _ _ _ h => h) (Or.inl ⟨by rfl, fun W hW => ?_⟩) (by assumption) ?_
  rotate_left
  · go_simp
    with_reducible rfl
  try simp only [Act.put, List.setIfInBounds_toArray, List.set_cons_zero, List.set_cons_succ]
  refine wpG_take (nx := [25, 8, 3, 4, 5, 7, 7, 8, 14, 15, 15, 15, 14, 14, 15, 16, 17, 24, 19, 20, 21, 23, 23, 24, 25, 26, 27]) (i := 13) (oi := ⟨some 97, Op.move (Operand.tmp 3), 22, _, _, none⟩) (v := ?vq114) (by kernel_rfl) rfl (by decide) (by kernel_rfl) (by kernel_rfl) (by kernel_rfl) (fun _ _ _ h => h) (Or.inl ⟨by rfl, fun W hW => ?_⟩) (by assumption) ?_
  rotate_left
  · go_simp
    with_reducible rfl
  try simp only [Act.put, List.setIfInBounds_toArray, List.set_cons_zero, List.set_cons_succ]
  refine wpG_take (nx := [25, 8, 3, 4, 5, 7, 7, 8, 14, 15, 15, 15, 14, 14, 15, 16, 17, 24, 19, 20, 21, 23, 23, 24, 25, 26, 27]) (i := 18) (oi := ⟨some 102, Op.move (Operand.tmp 0), 28, _, _, none⟩) (v := ?vq115) (by kernel_rfl) rfl (by decide) (by kernel_rfl) (by kernel_rfl) (by kernel_rfl) (fun _ _ _ h => h) (Or.inl ⟨by rfl, fun W hW => ?_⟩) (by assumption) ?_
  rotate_left
  · go_simp
    with_reducible rfl
  try simp only [Act.put, List.setIfInBounds_toArray, List.set_cons_zero, List.set_cons_succ]
  refine wpG_take (nx := [25, 8, 3, 4, 5, 7, 7, 8, 14, 15, 15, 15, 14, 14, 15, 16, 17, 24, 19, 20, 21, 23, 23, 24, 25, 26, 27]) (i := 19) (oi := ⟨some 103, Op.nilCheck (Operand.tmp 102), 0, _, _, none⟩) (v := ?vq116) (by kernel_rfl) rfl (by decide) (by kernel_rfl) (by kernel_rfl) (by kernel_rfl) (fun _ _ _ h => h) (Or.inl ⟨by rfl, fun W hW => ?_⟩) (by assumption) ?_
  rotate_left
  · go_simp
    with_reducible rfl
  try simp only [Act.put, List.setIfInBounds_toArray, List.set_cons_zero, List.set_cons_succ]
  refine wpG_take (nx := [25, 8, 3, 4, 5, 7, 7, 8, 14, 15, 15, 15, 14, 14, 15, 16, 17, 24, 19, 20, 21, 23, 23, 24, 25, 26, 27]) (i := 20) (oi := ⟨some 104, Op.fieldAddr 65 (Operand.tmp 103) 0, 0, _, _, none⟩) (v := ?vq117) (by kernel_rfl) rfl (by decide) (by kernel_rfl) (by kernel_rfl) (by kernel_rfl) (fun _ _ _ h => h) (Or.inl ⟨by rfl, fun W hW => ?_⟩) (by assumption) ?_
  rotate_left
  · go_simp
    with_reducible rfl
  try simp only [Act.put, List.setIfInBounds_toArray, List.set_cons_zero, List.set_cons_succ]
  refine wpG_take (nx := [25, 8, 3, 4, 5, 7, 7, 8, 14, 15, 15, 15, 14, 14, 15, 16, 17, 24, 19, 20, 21, 23, 23, 24, 25, 26, 27]) (i := 21) (oi := ⟨some 105, Op.load 62 (Operand.tmp 104), 62, _, _, none⟩) (v := .slice A n c) (by kernel_rfl) rfl (by decide) (by kernel_rfl) (by kernel_rfl) (by kernel_rfl) (fun _ _ _ h => h) (Or.inl ⟨by rfl, fun W hW => ?_⟩) (by assumption) ?_
  · go_simp
  try simp only [Act.put, List.setIfInBounds_toArray, List.set_cons_zero, List.set_cons_succ]
  refine wpG_take (nx := [25, 8, 3, 4, 5, 7, 7, 8, 14, 15, 15, 15, 14, 14, 15, 16, 17, 24, 19, 20, 21, 23, 23, 24, 25, 26, 27]) (i := 22) (oi := ⟨some 106, Op.move (Operand.tmp 12), 3, _, _, none⟩) (v := ?vq118) (by kernel_rfl) rfl (by decide) (by kernel_rfl) (by kernel_rfl) (by kernel_rfl) (fun _ _ _ h => h) (Or.inl ⟨by rfl, fun W hW => ?_⟩) (by assumption) ?_
  rotate_left
  · go_simp
    with_reducible rfl
  try simp only [Act.put, List.setIfInBounds_toArray, List.set_cons_zero, List.set_cons_succ]
  refine wpG_take (nx := [25, 8, 3, 4, 5, 7, 7, 8, 14, 15, 15, 15, 14, 14, 15, 16, 17, 24, 19, 20, 21, 23, 23, 24, 25, 26, 27]) (i := 23) (oi := ⟨some 107, Op.slice 62 (Operand.tmp 105) (some (Operand.tmp 106)) none none, 62, _, _, none⟩) (v := .slice B m2 c2) (by kernel_rfl) rfl (by decide) (by kernel_rfl) (by kernel_rfl) (by kernel_rfl) (fun _ _ _ h => h) (Or.inl ⟨by rfl, fun W hW => ?_⟩) (by assumption) ?_
  · go_simp
  try simp only [Act.put, List.setIfInBounds_toArray, List.set_cons_zero, List.set_cons_succ]
  refine wpG_ready (rs := [1, 12]) (by kernel_rfl) (by simp) ?_
  refine AllG.cons (o := ⟨some 85, Op.buildSlice 62 0 #[], 62, _, _, none⟩) rfl (fun KK hKK => ?_) (AllG.cons (o := ⟨some 96, Op.buildSlice 22 0 #[], 22, _, _, none⟩) rfl (fun KK hKK => ?_) AllG.nil)
  · go_simp
    obtain ⟨b120, f124⟩ : ∃ b, w0.heap.size = b := ⟨_, rfl⟩
    rw [f124]
    obtain ⟨W119, e123⟩ : ∃ W, World.alloc w0 (.cells #[] 56) = W := ⟨_, rfl⟩
    rw [e123]
    have kk121 : Keeps [] w0 W119 := by rw [← e123]; exact (Keeps.refl [] _).alloc _
    have K122 : Keeps [] w W119 := K0.trans kk121 (by simp)
    have ob125 : W119.ownsRow 0 56 4 (.slice (some ⟨b120, 0, none⟩) 0 0) 0 ([] : List Value) := by rw [← e123, ← f124]; exact own_of_blk (Blk.new _ 56 #[]) (by omega) (by omega) rfl rfl
    have ge126 : ∀ g ∈ fp (.slice (some ⟨b120, 0, none⟩) 0 0), w.heap.size ≤ g := by have := K0.size; intro g hg; have h0 : g = b120 := (by simpa [fp, Value.ownBlock] using hg); omega
    refine hKK.out _ _ (HS.out _ K122) (fun hHeld => ?_)
    clear hKK KK e123 f124
    try simp only [Act.put, List.setIfInBounds_toArray, List.set_cons_zero, List.set_cons_succ]
    refine wpG_ready (rs := [8, 12]) (by kernel_rfl) (by simp) ?_
    refine AllG.cons (o := ⟨some 92, Op.call { callee := Callee.builtin Builtin.append, args := #[Operand.tmp 85, Operand.tmp 91], argTypes := #[62, 62] }, 62, _, _, none⟩) rfl (fun KK hKK => ?_) (AllG.cons (o := ⟨some 96, Op.buildSlice 22 0 #[], 22, _, _, none⟩) rfl (fun KK hKK => ?_) AllG.nil)
    · refine step_app (by rfl) (.tmp 85) (.tmp 91) 62 (by rfl) 56 (.agg #[.int .i64 0, .int .i64 0, .int .i64 0, .slice none 0 0]) 4 48 Tryz.underlying62 HI.out rfl (by omega) (.slice (some ⟨b120, 0, none⟩) 0 0) 0 (([] : List Value)) ?_ ob125 _ A i c (xs1) ?_ (HR1.out _ K122) H1.out (by unfold maxLen; omega) (by omega) (fun v128 W127 ob129 kk130 f131 => ?_)
      · first | (simp [Act.eval]; done) | (simp [Act.eval, Act.put]; done)
      · first | (simp [Act.eval]; done) | (simp [Act.eval, Act.put]; done)
      have K132 : Keeps [] w W127 := K122.trans kk130 (fun g hg => .inr (ge126 g hg))
      have ge133 : ∀ g ∈ fp v128, w.heap.size ≤ g := ges_app f131 ge126 K122.size
      refine hKK.out _ _ (HS.out _ K132) (fun hHeld => ?_)
      clear hKK KK
      try simp only [Act.put, List.setIfInBounds_toArray, List.set_cons_zero, List.set_cons_succ]
      refine wpG_ready (rs := [12]) (by kernel_rfl) (by simp) ?_
      refine AllG.cons (o := ⟨some 96, Op.buildSlice 22 0 #[], 22, _, _, none⟩) rfl (fun KK hKK => ?_) AllG.nil
      go_simp
      obtain ⟨b135, f139⟩ : ∃ b, W127.heap.size = b := ⟨_, rfl⟩
      rw [f139]
      obtain ⟨W134, e138⟩ : ∃ W, World.alloc W127 (.cells #[] 3) = W := ⟨_, rfl⟩
      rw [e138]
      have kk136 : Keeps [] W127 W134 := by rw [← e138]; exact (Keeps.refl [] _).alloc _
      have K137 : Keeps [] w W134 := K132.trans kk136 (by simp)
      have d142 : ∀ g ∈ fp v128, g ∉ [b135] := by rw [← f139]; exact off_new (own_lts ob129)
      have ob143 := own_keep ob129 kk136 (by simp)
      have ob140 : W134.ownsRow 0 3 1 (.slice (some ⟨b135, 0, none⟩) 0 0) 0 ([] : List Value) := by rw [← e138, ← f139]; exact own_of_blk (Blk.new _ 3 #[]) (by omega) (by omega) rfl rfl
      have ge141 : ∀ g ∈ fp (.slice (some ⟨b135, 0, none⟩) 0 0), w.heap.size ≤ g := by have := K132.size; intro g hg; have h0 : g = b135 := (by simpa [fp, Value.ownBlock] using hg); omega
      refine hKK.out _ _ (HS.out _ K137) (fun hHeld => ?_)
      clear hKK KK e138 f139
      try simp only [Act.put, List.setIfInBounds_toArray, List.set_cons_zero, List.set_cons_succ]
      refine wpG_ready (rs := [14]) (by kernel_rfl) (by simp) ?_
      refine AllG.cons (o := ⟨some 98, Op.call { callee := Callee.builtin Builtin.append, args := #[Operand.tmp 96, Operand.tmp 97], argTypes := #[22, 22] }, 22, _, _, none⟩) rfl (fun KK hKK => ?_) AllG.nil
      refine step_app (by rfl) (.tmp 96) (.tmp 97) 22 (by rfl) 3 (.int .i64 0) 1 8 Tryz.underlying22 HI3.out rfl (by omega) (.slice (some ⟨b135, 0, none⟩) 0 0) 0 (([] : List Value)) ?_ ob140 _ Az nz cz (xsz) ?_ (HRZ.out _ K137) HZ1.out (by unfold maxLen; omega) (by omega) (fun v145 W144 ob146 kk147 f148 => ?_)
      · first | (simp [Act.eval]; done) | (simp [Act.eval, Act.put]; done)
      · first | (simp [Act.eval]; done) | (simp [Act.eval, Act.put]; done)
      have K149 : Keeps [] w W144 := K137.trans kk147 (fun g hg => .inr (ge141 g hg))
      have ge150 : ∀ g ∈ fp v145, w.heap.size ≤ g := ges_app f148 ge141 K137.size
      have d151 : ∀ g ∈ fp v145, g ∉ fp v128 := off_app f148 (off_symm d142) (own_lts ob143)
      have ob152 := own_keep ob143 kk147 d142
      rw [HNZ.out] at ob146
      obtain ⟨A153, c154, rfl, -, -, -⟩ := own_shape ob146
      refine hKK.out _ _ (HS.out _ K149) (fun hHeld => ?_)
      clear hKK KK
      try simp only [Act.put, List.setIfInBounds_toArray, List.set_cons_zero, List.set_cons_succ]
      refine wpG_take (nx := [25, 8, 3, 4, 5, 7, 7, 8, 14, 15, 15, 15, 14, 14, 15, 16, 17, 24, 19, 20, 21, 23, 23, 24, 25, 26, 27]) (i := 15) (oi := ⟨some 99, Op.build 56 #[(0, Operand.tmp 93), (1, Operand.tmp 94), (2, Operand.tmp 95), (3, Operand.tmp 98)], 56, _, _, none⟩) (v := .agg #[.int .i64 id, .int .i64 par, .int .i64 pid, .slice A153 nz c154]) (by kernel_rfl) rfl (by decide) (by kernel_rfl) (by kernel_rfl) (by kernel_rfl) (fun _ _ _ h => h) (Or.inl ⟨by rfl, fun W hW => ?_⟩) (by assumption) ?_
      · go_simp
      try simp only [Act.put, List.setIfInBounds_toArray, List.set_cons_zero, List.set_cons_succ]
      refine wpG_ready (rs := [16]) (by kernel_rfl) (by simp) ?_
      refine AllG.cons (o := ⟨some 100, Op.buildSlice 62 1 #[(0, Operand.tmp 99)], 62, _, _, none⟩) rfl (fun KK hKK => ?_) AllG.nil
      go_simp
      obtain ⟨b156, f160⟩ : ∃ b, W144.heap.size = b := ⟨_, rfl⟩
      rw [f160]
      obtain ⟨W155, e159⟩ : ∃ W, World.alloc W144 (.cells #[.int .i64 id, .int .i64 par, .int .i64 pid, .slice A153 nz c154] 56) = W := ⟨_, rfl⟩
      rw [e159]
      have kk157 : Keeps [] W144 W155 := by rw [← e159]; exact (Keeps.refl [] _).alloc _
      have K158 : Keeps [] w W155 := K149.trans kk157 (by simp)
      have d163 : ∀ g ∈ fp v128, g ∉ [b156] := by rw [← f160]; exact off_new (own_lts ob152)
      have d164 : ∀ g ∈ fp (.slice A153 nz c154), g ∉ [b156] := by rw [← f160]; exact off_new (own_lts ob146)
      have ob165 := own_keep ob152 kk157 (by simp)
      have ob166 := own_keep ob146 kk157 (by simp)
      have ob161 : Blk W155 b156 56 #[.int .i64 id, .int .i64 par, .int .i64 pid, .slice A153 nz c154] := by rw [← e159, ← f160]; exact Blk.new _ _ _
      have ge162 : ∀ g ∈ [b156], w.heap.size ≤ g := by have := K149.size; intro g hg; rw [List.mem_singleton.1 hg]; omega
      refine hKK.out _ _ (HS.out _ K158) (fun hHeld => ?_)
      clear hKK KK e159 f160
      try simp only [Act.put, List.setIfInBounds_toArray, List.set_cons_zero, List.set_cons_succ]
      refine wpG_ready (rs := [17]) (by kernel_rfl) (by simp) ?_
      refine AllG.cons (o := ⟨some 101, Op.call { callee := Callee.builtin Builtin.append, args := #[Operand.tmp 92, Operand.tmp 100], argTypes := #[62, 62] }, 62, _, _, none⟩) rfl (fun KK hKK => ?_) AllG.nil
      refine step_app (by rfl) (.tmp 92) (.tmp 100) 62 (by rfl) 56 (.agg #[.int .i64 0, .int .i64 0, .int .i64 0, .slice none 0 0]) 4 48 Tryz.underlying62 HI.out rfl (by omega) v128 (0 + i) ([] ++ xs1) ?_ ob165 _ (some ⟨b156, 0, none⟩) 1 1 ([.int .i64 id, .int .i64 par, .int .i64 pid, .slice A153 nz c154]) ?_ (reads_blk ob161 rfl rfl) (by simp [Value.oneCell']) (by unfold maxLen; omega) (by omega) (fun v168 W167 ob169 kk170 f171 => ?_)
      · first | (simp [Act.eval]; done) | (simp [Act.eval, Act.put]; done)
      · first | (simp [Act.eval]; done) | (simp [Act.eval, Act.put]; done)
      have K172 : Keeps [] w W167 := K158.trans kk170 (fun g hg => .inr (ge133 g hg))
      have ge173 : ∀ g ∈ fp v168, w.heap.size ≤ g := ges_app f171 ge133 K158.size
      have d174 : ∀ g ∈ fp v168, g ∉ fp (.slice A153 nz c154) := off_app f171 (off_symm d151) (own_lts ob166)
      have d175 : ∀ g ∈ fp v168, g ∉ [b156] := off_app f171 d163 ob161.lts
      have ob176 := own_keep ob166 kk170 d151
      have ob177 := ob161.keep kk170 (fun h0 => d163 _ h0 (by simp))
      refine hKK.out _ _ (HS.out _ K172) (fun hHeld => ?_)
      clear hKK KK
      try simp only [Act.put, List.setIfInBounds_toArray, List.set_cons_zero, List.set_cons_succ]
      refine wpG_ready (rs := [24]) (by kernel_rfl) (by simp) ?_
      refine AllG.cons (o := ⟨some 108, Op.call { callee := Callee.builtin Builtin.append, args := #[Operand.tmp 101, Operand.tmp 107], argTypes := #[62, 62] }, 62, _, _, none⟩) rfl (fun KK hKK => ?_) AllG.nil
      refine step_app (by rfl) (.tmp 101) (.tmp 107) 62 (by rfl) 56 (.agg #[.int .i64 0, .int .i64 0, .int .i64 0, .slice none 0 0]) 4 48 Tryz.underlying62 HI.out rfl (by omega) v168 (0 + i + 1) ([] ++ xs1 ++ [.int .i64 id, .int .i64 par, .int .i64 pid, .slice A153 nz c154]) ?_ ob169 _ B m2 c2 (xs2) ?_ (HR2.out _ K172) H2.out (by unfold maxLen; omega) (by omega) (fun v179 W178 ob180 kk181 f182 => ?_)
      · first | (simp [Act.eval]; done) | (simp [Act.eval, Act.put]; done)
      · first | (simp [Act.eval]; done) | (simp [Act.eval, Act.put]; done)
      have K183 : Keeps [] w W178 := K172.trans kk181 (fun g hg => .inr (ge173 g hg))
      have ge184 : ∀ g ∈ fp v179, w.heap.size ≤ g := ges_app f182 ge173 K172.size
      have d185 : ∀ g ∈ fp v179, g ∉ fp (.slice A153 nz c154) := off_app f182 d174 (own_lts ob176)
      have d186 : ∀ g ∈ fp v179, g ∉ [b156] := off_app f182 d175 ob177.lts
      have ob187 := own_keep ob176 kk181 (off_symm d174)
      have ob188 := ob177.keep kk181 (fun h0 => d175 _ h0 (by simp))
      rw [HN3.out] at ob180
      obtain ⟨A189, c190, rfl, -, -, -⟩ := own_shape ob180
      refine hKK.out _ _ (HS.out _ K183) (fun hHeld => ?_)
      clear hKK KK
      try simp only [Act.put, List.setIfInBounds_toArray, List.set_cons_zero, List.set_cons_succ]
      refine wpG_take (nx := [25, 8, 3, 4, 5, 7, 7, 8, 14, 15, 15, 15, 14, 14, 15, 16, 17, 24, 19, 20, 21, 23, 23, 24, 25, 26, 27]) (i := 25) (oi := ⟨some 109, Op.nilCheck (Operand.tmp 84), 0, _, _, none⟩) (v := ?vq191) (by kernel_rfl) rfl (by decide) (by kernel_rfl) (by kernel_rfl) (by kernel_rfl) (fun _ _ _ h => h) (Or.inl ⟨by rfl, fun W hW => ?_⟩) (by assumption) ?_
      rotate_left
      · go_simp
        with_reducible rfl
      try simp only [Act.put, List.setIfInBounds_toArray, List.set_cons_zero, List.set_cons_succ]
      refine wpG_take (nx := [25, 8, 3, 4, 5, 7, 7, 8, 14, 15, 15, 15, 14, 14, 15, 16, 17, 24, 19, 20, 21, 23, 23, 24, 25, 26, 27]) (i := 26) (oi := ⟨some 110, Op.fieldAddr 65 (Operand.tmp 109) 0, 0, _, _, none⟩) (v := ?vq192) (by kernel_rfl) rfl (by decide) (by kernel_rfl) (by kernel_rfl) (by kernel_rfl) (fun _ _ _ h => h) (Or.inl ⟨by rfl, fun W hW => ?_⟩) (by assumption) ?_
      rotate_left
      · go_simp
        with_reducible rfl
      try simp only [Act.put, List.setIfInBounds_toArray, List.set_cons_zero, List.set_cons_succ]
      refine wpG_ready (rs := [27]) (by kernel_rfl) (by simp) ?_
      refine AllG.last (o := ⟨none, Op.store 62 (Operand.tmp 110) (Operand.tmp 108), 0, _, _, none⟩) rfl (fun KK hKK => ?_)
      have hc0 := HS.out _ K183
      have hf0 := HF.out _ K183
      go_simp
      refine hKK.out _ _ ?_
      clear hKK KK hHeld
      try simp only [Act.put, List.setIfInBounds_toArray, List.set_cons_zero, List.set_cons_succ]
      refine wpG_done (by kernel_rfl) ?_ _
      refine NoPanic.normal ?_
      exact hK _ _ _ _ _ _ _ _ _ _ _ _ _ _ _ _ _ _ _ _ _ _ _ _ _ _ _ A153 c154 (.slice A189 N3 c190) W178 ob180 ob187 ge150 K183 ge184
    · go_simp
      obtain ⟨b194, f198⟩ : ∃ b, W119.heap.size = b := ⟨_, rfl⟩
      rw [f198]
      obtain ⟨W193, e197⟩ : ∃ W, World.alloc W119 (.cells #[] 3) = W := ⟨_, rfl⟩
      rw [e197]
      have kk195 : Keeps [] W119 W193 := by rw [← e197]; exact (Keeps.refl [] _).alloc _
      have K196 : Keeps [] w W193 := K122.trans kk195 (by simp)
      have d201 : ∀ g ∈ fp (.slice (some ⟨b120, 0, none⟩) 0 0), g ∉ [b194] := by rw [← f198]; exact off_new (own_lts ob125)
      have ob202 := own_keep ob125 kk195 (by simp)
      have ob199 : W193.ownsRow 0 3 1 (.slice (some ⟨b194, 0, none⟩) 0 0) 0 ([] : List Value) := by rw [← e197, ← f198]; exact own_of_blk (Blk.new _ 3 #[]) (by omega) (by omega) rfl rfl
      have ge200 : ∀ g ∈ fp (.slice (some ⟨b194, 0, none⟩) 0 0), w.heap.size ≤ g := by have := K122.size; intro g hg; have h0 : g = b194 := (by simpa [fp, Value.ownBlock] using hg); omega
      refine hKK.out _ _ (HS.out _ K196) (fun hHeld => ?_)
      clear hKK KK e197 f198
      try simp only [Act.put, List.setIfInBounds_toArray, List.set_cons_zero, List.set_cons_succ]
      refine wpG_ready (rs := [8]) (by kernel_rfl) (by simp) ?_
      refine AllG.cons (o := ⟨some 92, Op.call { callee := Callee.builtin Builtin.append, args := #[Operand.tmp 85, Operand.tmp 91], argTypes := #[62, 62] }, 62, _, _, none⟩) rfl (fun KK hKK => ?_) AllG.nil
      refine step_app (by rfl) (.tmp 85) (.tmp 91) 62 (by rfl) 56 (.agg #[.int .i64 0, .int .i64 0, .int .i64 0, .slice none 0 0]) 4 48 Tryz.underlying62 HI.out rfl (by omega) (.slice (some ⟨b120, 0, none⟩) 0 0) 0 (([] : List Value)) ?_ ob202 _ A i c (xs1) ?_ (HR1.out _ K196) H1.out (by unfold maxLen; omega) (by omega) (fun v204 W203 ob205 kk206 f207 => ?_)
      · first | (simp [Act.eval]; done) | (simp [Act.eval, Act.put]; done)
      · first | (simp [Act.eval]; done) | (simp [Act.eval, Act.put]; done)
      have K208 : Keeps [] w W203 := K196.trans kk206 (fun g hg => .inr (ge126 g hg))
      have ge209 : ∀ g ∈ fp v204, w.heap.size ≤ g := ges_app f207 ge126 K196.size
      have d210 : ∀ g ∈ fp v204, g ∉ fp (.slice (some ⟨b194, 0, none⟩) 0 0) := off_app f207 d201 (own_lts ob199)
      have ob211 := own_keep ob199 kk206 (off_symm d201)
      refine hKK.out _ _ (HS.out _ K208) (fun hHeld => ?_)
      clear hKK KK
      try simp only [Act.put, List.setIfInBounds_toArray, List.set_cons_zero, List.set_cons_succ]
      refine wpG_ready (rs := [14]) (by kernel_rfl) (by simp) ?_
      refine AllG.cons (o := ⟨some 98, Op.call { callee := Callee.builtin Builtin.append, args := #[Operand.tmp 96, Operand.tmp 97], argTypes := #[22, 22] }, 22, _, _, none⟩) rfl (fun KK hKK => ?_) AllG.nil
      refine step_app (by rfl) (.tmp 96) (.tmp 97) 22 (by rfl) 3 (.int .i64 0) 1 8 Tryz.underlying22 HI3.out rfl (by omega) (.slice (some ⟨b194, 0, none⟩) 0 0) 0 (([] : List Value)) ?_ ob211 _ Az nz cz (xsz) ?_ (HRZ.out _ K208) HZ1.out (by unfold maxLen; omega) (by omega) (fun v213 W212 ob214 kk215 f216 => ?_)
      · first | (simp [Act.eval]; done) | (simp [Act.eval, Act.put]; done)
      · first | (simp [Act.eval]; done) | (simp [Act.eval, Act.put]; done)
      have K217 : Keeps [] w W212 := K208.trans kk215 (fun g hg => .inr (ge200 g hg))
      have ge218 : ∀ g ∈ fp v213, w.heap.size ≤ g := ges_app f216 ge200 K208.size
      have d219 : ∀ g ∈ fp v213, g ∉ fp v204 := off_app f216 (off_symm d210) (own_lts ob205)
      have ob220 := own_keep ob205 kk215 d210
      rw [HNZ.out] at ob214
      obtain ⟨A221, c222, rfl, -, -, -⟩ := own_shape ob214
      refine hKK.out _ _ (HS.out _ K217) (fun hHeld => ?_)
      clear hKK KK
      try simp only [Act.put, List.setIfInBounds_toArray, List.set_cons_zero, List.set_cons_succ]
      refine wpG_take (nx := [25, 8, 3, 4, 5, 7, 7, 8, 14, 15, 15, 15, 14, 14, 15, 16, 17, 24, 19, 20, 21, 23, 23, 24, 25, 26, 27]) (i := 15) (oi := ⟨some 99, Op.build 56 #[(0, Operand.tmp 93), (1, Operand.tmp 94), (2, Operand.tmp 95), (3, Operand.tmp 98)], 56, _, _, none⟩) (v := .agg #[.int .i64 id, .int .i64 par, .int .i64 pid, .slice A221 nz c222]) (by kernel_rfl) rfl (by decide) (by kernel_rfl) (by kernel_rfl) (by kernel_rfl) (fun _ _ _ h => h) (Or.inl ⟨by rfl, fun W hW => ?_⟩) (by assumption) ?_
      · go_simp
      try simp only [Act.put, List.setIfInBounds_toArray, List.set_cons_zero, List.set_cons_succ]
      refine wpG_ready (rs := [16]) (by kernel_rfl) (by simp) ?_
      refine AllG.cons (o := ⟨some 100, Op.buildSlice 62 1 #[(0, Operand.tmp 99)], 62, _, _, none⟩) rfl (fun KK hKK => ?_) AllG.nil
      go_simp
      obtain ⟨b224, f228⟩ : ∃ b, W212.heap.size = b := ⟨_, rfl⟩
      rw [f228]
      obtain ⟨W223, e227⟩ : ∃ W, World.alloc W212 (.cells #[.int .i64 id, .int .i64 par, .int .i64 pid, .slice A221 nz c222] 56) = W := ⟨_, rfl⟩
      rw [e227]
      have kk225 : Keeps [] W212 W223 := by rw [← e227]; exact (Keeps.refl [] _).alloc _
      have K226 : Keeps [] w W223 := K217.trans kk225 (by simp)
      have d231 : ∀ g ∈ fp v204, g ∉ [b224] := by rw [← f228]; exact off_new (own_lts ob220)
      have d232 : ∀ g ∈ fp (.slice A221 nz c222), g ∉ [b224] := by rw [← f228]; exact off_new (own_lts ob214)
      have ob233 := own_keep ob220 kk225 (by simp)
      have ob234 := own_keep ob214 kk225 (by simp)
      have ob229 : Blk W223 b224 56 #[.int .i64 id, .int .i64 par, .int .i64 pid, .slice A221 nz c222] := by rw [← e227, ← f228]; exact Blk.new _ _ _
      have ge230 : ∀ g ∈ [b224], w.heap.size ≤ g := by have := K217.size; intro g hg; rw [List.mem_singleton.1 hg]; omega
      refine hKK.out _ _ (HS.out _ K226) (fun hHeld => ?_)
      clear hKK KK e227 f228
      try simp only [Act.put, List.setIfInBounds_toArray, List.set_cons_zero, List.set_cons_succ]
      refine wpG_ready (rs := [17]) (by kernel_rfl) (by simp) ?_
      refine AllG.cons (o := ⟨some 101, Op.call { callee := Callee.builtin Builtin.append, args := #[Operand.tmp 92, Operand.tmp 100], argTypes := #[62, 62] }, 62, _, _, none⟩) rfl (fun KK hKK => ?_) AllG.nil
      refine step_app (by rfl) (.tmp 92) (.tmp 100) 62 (by rfl) 56 (.agg #[.int .i64 0, .int .i64 0, .int .i64 0, .slice none 0 0]) 4 48 Tryz.underlying62 HI.out rfl (by omega) v204 (0 + i) ([] ++ xs1) ?_ ob233 _ (some ⟨b224, 0, none⟩) 1 1 ([.int .i64 id, .int .i64 par, .int .i64 pid, .slice A221 nz c222]) ?_ (reads_blk ob229 rfl rfl) (by simp [Value.oneCell']) (by unfold maxLen; omega) (by omega) (fun v236 W235 ob237 kk238 f239 => ?_)
      · first | (simp [Act.eval]; done) | (simp [Act.eval, Act.put]; done)
      · first | (simp [Act.eval]; done) | (simp [Act.eval, Act.put]; done)
      have K240 : Keeps [] w W235 := K226.trans kk238 (fun g hg => .inr (ge209 g hg))
      have ge241 : ∀ g ∈ fp v236, w.heap.size ≤ g := ges_app f239 ge209 K226.size
      have d242 : ∀ g ∈ fp v236, g ∉ fp (.slice A221 nz c222) := off_app f239 (off_symm d219) (own_lts ob234)
      have d243 : ∀ g ∈ fp v236, g ∉ [b224] := off_app f239 d231 ob229.lts
      have ob244 := own_keep ob234 kk238 d219
      have ob245 := ob229.keep kk238 (fun h0 => d231 _ h0 (by simp))
      refine hKK.out _ _ (HS.out _ K240) (fun hHeld => ?_)
      clear hKK KK
      try simp only [Act.put, List.setIfInBounds_toArray, List.set_cons_zero, List.set_cons_succ]
      refine wpG_ready (rs := [24]) (by kernel_rfl) (by simp) ?_
      refine AllG.cons (o := ⟨some 108, Op.call { callee := Callee.builtin Builtin.append, args := #[Operand.tmp 101, Operand.tmp 107], argTypes := #[62, 62] }, 62, _, _, none⟩) rfl (fun KK hKK => ?_) AllG.nil
      refine step_app (by rfl) (.tmp 101) (.tmp 107) 62 (by rfl) 56 (.agg #[.int .i64 0, .int .i64 0, .int .i64 0, .slice none 0 0]) 4 48 Tryz.underlying62 HI.out rfl (by omega) v236 (0 + i + 1) ([] ++ xs1 ++ [.int .i64 id, .int .i64 par, .int .i64 pid, .slice A221 nz c222]) ?_ ob237 _ B m2 c2 (xs2) ?_ (HR2.out _ K240) H2.out (by unfold maxLen; omega) (by omega) (fun v247 W246 ob248 kk249 f250 => ?_)
      · first | (simp [Act.eval]; done) | (simp [Act.eval, Act.put]; done)
      · first | (simp [Act.eval]; done) | (simp [Act.eval, Act.put]; done)
      have K251 : Keeps [] w W246 := K240.trans kk249 (fun g hg => .inr (ge241 g hg))
      have ge252 : ∀ g ∈ fp v247, w.heap.size ≤ g := ges_app f250 ge241 K240.size
      have d253 : ∀ g ∈ fp v247, g ∉ fp (.slice A221 nz c222) := off_app f250 d242 (own_lts ob244)
      have d254 : ∀ g ∈ fp v247, g ∉ [b224] := off_app f250 d243 ob245.lts
      have ob255 := own_keep ob244 kk249 (off_symm d242)
      have ob256 := ob245.keep kk249 (fun h0 => d243 _ h0 (by simp))
      rw [HN3.out] at ob248
      obtain ⟨A257, c258, rfl, -, -, -⟩ := own_shape ob248
      refine hKK.out _ _ (HS.out _ K251) (fun hHeld => ?_)
      clear hKK KK
      try simp only [Act.put, List.setIfInBounds_toArray, List.set_cons_zero, List.set_cons_succ]
      refine wpG_take (nx := [25, 8, 3, 4, 5, 7, 7, 8, 14, 15, 15, 15, 14, 14, 15, 16, 17, 24, 19, 20, 21, 23, 23, 24, 25, 26, 27]) (i := 25) (oi := ⟨some 109, Op.nilCheck (Operand.tmp 84), 0, _, _, none⟩) (v := ?vq259) (by kernel_rfl) rfl (by decide) (by kernel_rfl) (by kernel_rfl) (by kernel_rfl) (fun _ _ _ h => h) (Or.inl ⟨by rfl, fun W hW => ?_⟩) (by assumption) ?_
      rotate_left
      · go_simp
        with_reducible rfl
      try simp only [Act.put, List.setIfInBounds_toArray, List.set_cons_zero, List.set_cons_succ]
      refine wpG_take (nx := [25, 8, 3, 4, 5, 7, 7, 8, 14, 15, 15, 15, 14, 14, 15, 16, 17, 24, 19, 20, 21, 23, 23, 24, 25, 26, 27]) (i := 26) (oi := ⟨some 110, Op.fieldAddr 65 (Operand.tmp 109) 0, 0, _, _, none⟩) (v := ?vq260) (by kernel_rfl) rfl (by decide) (by kernel_rfl) (by kernel_rfl) (by kernel_rfl) (fun _ _ _ h => h) (Or.inl ⟨by rfl, fun W hW => ?_⟩) (by assumption) ?_
      rotate_left
      · go_simp
        with_reducible rfl
      try simp only [Act.put, List.setIfInBounds_toArray, List.set_cons_zero, List.set_cons_succ]
      refine wpG_ready (rs := [27]) (by kernel_rfl) (by simp) ?_
      refine AllG.last (o := ⟨none, Op.store 62 (Operand.tmp 110) (Operand.tmp 108), 0, _, _, none⟩) rfl (fun KK hKK => ?_)
      have hc0 := HS.out _ K251
      have hf0 := HF.out _ K251
      go_simp
      refine hKK.out _ _ ?_
      clear hKK KK hHeld
      try simp only [Act.put, List.setIfInBounds_toArray, List.set_cons_zero, List.set_cons_succ]
      refine wpG_done (by kernel_rfl) ?_ _
      refine NoPanic.normal ?_
      exact hK _ _ _ _ _ _ _ _ _ _ _ _ _ _ _ _ _ _ _ _ _ _ _ _ _ _ _ A221 c222 (.slice A257 N3 c258) W246 ob248 ob255 ge218 K251 ge252
  · go_simp
    obtain ⟨b262, f266⟩ : ∃ b, w0.heap.size = b := ⟨_, rfl⟩
    rw [f266]
    obtain ⟨W261, e265⟩ : ∃ W, World.alloc w0 (.cells #[] 3) = W := ⟨_, rfl⟩
    rw [e265]
    have kk263 : Keeps [] w0 W261 := by rw [← e265]; exact (Keeps.refl [] _).alloc _
    have K264 : Keeps [] w W261 := K0.trans kk263 (by simp)
    have ob267 : W261.ownsRow 0 3 1 (.slice (some ⟨b262, 0, none⟩) 0 0) 0 ([] : List Value) := by rw [← e265, ← f266]; exact own_of_blk (Blk.new _ 3 #[]) (by omega) (by omega) rfl rfl
    have ge268 : ∀ g ∈ fp (.slice (some ⟨b262, 0, none⟩) 0 0), w.heap.size ≤ g := by have := K0.size; intro g hg; have h0 : g = b262 := (by simpa [fp, Value.ownBlock] using hg); omega
    refine hKK.out _ _ (HS.out _ K264) (fun hHeld => ?_)
    clear hKK KK e265 f266
    try simp only [Act.put, List.setIfInBounds_toArray, List.set_cons_zero, List.set_cons_succ]
    refine wpG_ready (rs := [1]) (by kernel_rfl) (by simp) ?_
    refine AllG.cons (o := ⟨some 85, Op.buildSlice 62 0 #[], 62, _, _, none⟩) rfl (fun KK hKK => ?_) AllG.nil
    go_simp
    obtain ⟨b270, f274⟩ : ∃ b, W261.heap.size = b := ⟨_, rfl⟩
    rw [f274]
    obtain ⟨W269, e273⟩ : ∃ W, World.alloc W261 (.cells #[] 56) = W := ⟨_, rfl⟩
    rw [e273]
    have kk271 : Keeps [] W261 W269 := by rw [← e273]; exact (Keeps.refl [] _).alloc _
    have K272 : Keeps [] w W269 := K264.trans kk271 (by simp)
    have d277 : ∀ g ∈ fp (.slice (some ⟨b262, 0, none⟩) 0 0), g ∉ [b270] := by rw [← f274]; exact off_new (own_lts ob267)
    have ob278 := own_keep ob267 kk271 (by simp)
    have ob275 : W269.ownsRow 0 56 4 (.slice (some ⟨b270, 0, none⟩) 0 0) 0 ([] : List Value) := by rw [← e273, ← f274]; exact own_of_blk (Blk.new _ 56 #[]) (by omega) (by omega) rfl rfl
    have ge276 : ∀ g ∈ fp (.slice (some ⟨b270, 0, none⟩) 0 0), w.heap.size ≤ g := by have := K264.size; intro g hg; have h0 : g = b270 := (by simpa [fp, Value.ownBlock] using hg); omega
    refine hKK.out _ _ (HS.out _ K272) (fun hHeld => ?_)
    clear hKK KK e273 f274
    try simp only [Act.put, List.setIfInBounds_toArray, List.set_cons_zero, List.set_cons_succ]
    refine wpG_ready (rs := [8]) (by kernel_rfl) (by simp) ?_
    refine AllG.cons (o := ⟨some 92, Op.call { callee := Callee.builtin Builtin.append, args := #[Operand.tmp 85, Operand.tmp 91], argTypes := #[62, 62] }, 62, _, _, none⟩) rfl (fun KK hKK => ?_) AllG.nil
    refine step_app (by rfl) (.tmp 85) (.tmp 91) 62 (by rfl) 56 (.agg #[.int .i64 0, .int .i64 0, .int .i64 0, .slice none 0 0]) 4 48 Tryz.underlying62 HI.out rfl (by omega) (.slice (some ⟨b270, 0, none⟩) 0 0) 0 (([] : List Value)) ?_ ob275 _ A i c (xs1) ?_ (HR1.out _ K272) H1.out (by unfold maxLen; omega) (by omega) (fun v280 W279 ob281 kk282 f283 => ?_)
    · first | (simp [Act.eval]; done) | (simp [Act.eval, Act.put]; done)
    · first | (simp [Act.eval]; done) | (simp [Act.eval, Act.put]; done)
    have K284 : Keeps [] w W279 := K272.trans kk282 (fun g hg => .inr (ge276 g hg))
    have ge285 : ∀ g ∈ fp v280, w.heap.size ≤ g := ges_app f283 ge276 K272.size
    have d286 : ∀ g ∈ fp v280, g ∉ fp (.slice (some ⟨b262, 0, none⟩) 0 0) := off_app f283 (off_symm d277) (own_lts ob278)
    have ob287 := own_keep ob278 kk282 d277
    refine hKK.out _ _ (HS.out _ K284) (fun hHeld => ?_)
    clear hKK KK
    try simp only [Act.put, List.setIfInBounds_toArray, List.set_cons_zero, List.set_cons_succ]
    refine wpG_ready (rs := [14]) (by kernel_rfl) (by simp) ?_
    refine AllG.cons (o := ⟨some 98, Op.call { callee := Callee.builtin Builtin.append, args := #[Operand.tmp 96, Operand.tmp 97], argTypes := #[22, 22] }, 22, _, _, none⟩) rfl (fun KK hKK => ?_) AllG.nil
    refine step_app (by rfl) (.tmp 96) (.tmp 97) 22 (by rfl) 3 (.int .i64 0) 1 8 Tryz.underlying22 HI3.out rfl (by omega) (.slice (some ⟨b262, 0, none⟩) 0 0) 0 (([] : List Value)) ?_ ob287 _ Az nz cz (xsz) ?_ (HRZ.out _ K284) HZ1.out (by unfold maxLen; omega) (by omega) (fun v289 W288 ob290 kk291 f292 => ?_)
    · first | (simp [Act.eval]; done) | (simp [Act.eval, Act.put]; done)
    · first | (simp [Act.eval]; done) | (simp [Act.eval, Act.put]; done)
    have K293 : Keeps [] w W288 := K284.trans kk291 (fun g hg => .inr (ge268 g hg))
    have ge294 : ∀ g ∈ fp v289, w.heap.size ≤ g := ges_app f292 ge268 K284.size
    have d295 : ∀ g ∈ fp v289, g ∉ fp v280 := off_app f292 (off_symm d286) (own_lts ob281)
    have ob296 := own_keep ob281 kk291 d286
    rw [HNZ.out] at ob290
    obtain ⟨A297, c298, rfl, -, -, -⟩ := own_shape ob290
    refine hKK.out _ _ (HS.out _ K293) (fun hHeld => ?_)
    clear hKK KK
    try simp only [Act.put, List.setIfInBounds_toArray, List.set_cons_zero, List.set_cons_succ]
    refine wpG_take (nx := [25, 8, 3, 4, 5, 7, 7, 8, 14, 15, 15, 15, 14, 14, 15, 16, 17, 24, 19, 20, 21, 23, 23, 24, 25, 26, 27]) (i := 15) (oi := ⟨some 99, Op.build 56 #[(0, Operand.tmp 93), (1, Operand.tmp 94), (2, Operand.tmp 95), (3, Operand.tmp 98)], 56, _, _, none⟩) (v := .agg #[.int .i64 id, .int .i64 par, .int .i64 pid, .slice A297 nz c298]) (by kernel_rfl) rfl (by decide) (by kernel_rfl) (by kernel_rfl) (by kernel_rfl) (fun _ _ _ h => h) (Or.inl ⟨by rfl, fun W hW => ?_⟩) (by assumption) ?_
    · go_simp
    try simp only [Act.put, List.setIfInBounds_toArray, List.set_cons_zero, List.set_cons_succ]
    refine wpG_ready (rs := [16]) (by kernel_rfl) (by simp) ?_
    refine AllG.cons (o := ⟨some 100, Op.buildSlice 62 1 #[(0, Operand.tmp 99)], 62, _, _, none⟩) rfl (fun KK hKK => ?_) AllG.nil
    go_simp
    obtain ⟨b300, f304⟩ : ∃ b, W288.heap.size = b := ⟨_, rfl⟩
    rw [f304]
    obtain ⟨W299, e303⟩ : ∃ W, World.alloc W288 (.cells #[.int .i64 id, .int .i64 par, .int .i64 pid, .slice A297 nz c298] 56) = W := ⟨_, rfl⟩
    rw [e303]
    have kk301 : Keeps [] W288 W299 := by rw [← e303]; exact (Keeps.refl [] _).alloc _
    have K302 : Keeps [] w W299 := K293.trans kk301 (by simp)
    have d307 : ∀ g ∈ fp (.slice A297 nz c298), g ∉ [b300] := by rw [← f304]; exact off_new (own_lts ob290)
    have d308 : ∀ g ∈ fp v280, g ∉ [b300] := by rw [← f304]; exact off_new (own_lts ob296)
    have ob309 := own_keep ob290 kk301 (by simp)
    have ob310 := own_keep ob296 kk301 (by simp)
    have ob305 : Blk W299 b300 56 #[.int .i64 id, .int .i64 par, .int .i64 pid, .slice A297 nz c298] := by rw [← e303, ← f304]; exact Blk.new _ _ _
    have ge306 : ∀ g ∈ [b300], w.heap.size ≤ g := by have := K293.size; intro g hg; rw [List.mem_singleton.1 hg]; omega
    refine hKK.out _ _ (HS.out _ K302) (fun hHeld => ?_)
    clear hKK KK e303 f304
    try simp only [Act.put, List.setIfInBounds_toArray, List.set_cons_zero, List.set_cons_succ]
    refine wpG_ready (rs := [17]) (by kernel_rfl) (by simp) ?_
    refine AllG.cons (o := ⟨some 101, Op.call { callee := Callee.builtin Builtin.append, args := #[Operand.tmp 92, Operand.tmp 100], argTypes := #[62, 62] }, 62, _, _, none⟩) rfl (fun KK hKK => ?_) AllG.nil
    refine step_app (by rfl) (.tmp 92) (.tmp 100) 62 (by rfl) 56 (.agg #[.int .i64 0, .int .i64 0, .int .i64 0, .slice none 0 0]) 4 48 Tryz.underlying62 HI.out rfl (by omega) v280 (0 + i) ([] ++ xs1) ?_ ob310 _ (some ⟨b300, 0, none⟩) 1 1 ([.int .i64 id, .int .i64 par, .int .i64 pid, .slice A297 nz c298]) ?_ (reads_blk ob305 rfl rfl) (by simp [Value.oneCell']) (by unfold maxLen; omega) (by omega) (fun v312 W311 ob313 kk314 f315 => ?_)
    · first | (simp [Act.eval]; done) | (simp [Act.eval, Act.put]; done)
    · first | (simp [Act.eval]; done) | (simp [Act.eval, Act.put]; done)
    have K316 : Keeps [] w W311 := K302.trans kk314 (fun g hg => .inr (ge285 g hg))
    have ge317 : ∀ g ∈ fp v312, w.heap.size ≤ g := ges_app f315 ge285 K302.size
    have d318 : ∀ g ∈ fp v312, g ∉ fp (.slice A297 nz c298) := off_app f315 (off_symm d295) (own_lts ob309)
    have d319 : ∀ g ∈ fp v312, g ∉ [b300] := off_app f315 d308 ob305.lts
    have ob320 := own_keep ob309 kk314 d295
    have ob321 := ob305.keep kk314 (fun h0 => d308 _ h0 (by simp))
    refine hKK.out _ _ (HS.out _ K316) (fun hHeld => ?_)
    clear hKK KK
    try simp only [Act.put, List.setIfInBounds_toArray, List.set_cons_zero, List.set_cons_succ]
    refine wpG_ready (rs := [24]) (by kernel_rfl) (by simp) ?_
    refine AllG.cons (o := ⟨some 108, Op.call { callee := Callee.builtin Builtin.append, args := #[Operand.tmp 101, Operand.tmp 107], argTypes := #[62, 62] }, 62, _, _, none⟩) rfl (fun KK hKK => ?_) AllG.nil
    refine step_app (by rfl) (.tmp 101) (.tmp 107) 62 (by rfl) 56 (.agg #[.int .i64 0, .int .i64 0, .int .i64 0, .slice none 0 0]) 4 48 Tryz.underlying62 HI.out rfl (by omega) v312 (0 + i + 1) ([] ++ xs1 ++ [.int .i64 id, .int .i64 par, .int .i64 pid, .slice A297 nz c298]) ?_ ob313 _ B m2 c2 (xs2) ?_ (HR2.out _ K316) H2.out (by unfold maxLen; omega) (by omega) (fun v323 W322 ob324 kk325 f326 => ?_)
    · first | (simp [Act.eval]; done) | (simp [Act.eval, Act.put]; done)
    · first | (simp [Act.eval]; done) | (simp [Act.eval, Act.put]; done)
    have K327 : Keeps [] w W322 := K316.trans kk325 (fun g hg => .inr (ge317 g hg))
    have ge328 : ∀ g ∈ fp v323, w.heap.size ≤ g := ges_app f326 ge317 K316.size
    have d329 : ∀ g ∈ fp v323, g ∉ fp (.slice A297 nz c298) := off_app f326 d318 (own_lts ob320)
    have d330 : ∀ g ∈ fp v323, g ∉ [b300] := off_app f326 d319 ob321.lts
    have ob331 := own_keep ob320 kk325 (off_symm d318)
    have ob332 := ob321.keep kk325 (fun h0 => d319 _ h0 (by simp))
    rw [HN3.out] at ob324
    obtain ⟨A333, c334, rfl, -, -, -⟩ := own_shape ob324
    refine hKK.out _ _ (HS.out _ K327) (fun hHeld => ?_)
    clear hKK KK
    try simp only [Act.put, List.setIfInBounds_toArray, List.set_cons_zero, List.set_cons_succ]
    refine wpG_take (nx := [25, 8, 3, 4, 5, 7, 7, 8, 14, 15, 15, 15, 14, 14, 15, 16, 17, 24, 19, 20, 21, 23, 23, 24, 25, 26, 27]) (i := 25) (oi := ⟨some 109, Op.nilCheck (Operand.tmp 84), 0, _, _, none⟩) (v := ?vq335) (by kernel_rfl) rfl (by decide) (by kernel_rfl) (by kernel_rfl) (by kernel_rfl) (fun _ _ _ h => h) (Or.inl ⟨by rfl, fun W hW => ?_⟩) (by assumption) ?_
    rotate_left
    · go_simp
      with_reducible rfl
    try simp only [Act.put, List.setIfInBounds_toArray, List.set_cons_zero, List.set_cons_succ]
    refine wpG_take (nx := [25, 8, 3, 4, 5, 7, 7, 8, 14, 15, 15, 15, 14, 14, 15, 16, 17, 24, 19, 20, 21, 23, 23, 24, 25, 26, 27]) (i := 26) (oi := ⟨some 110, Op.fieldAddr 65 (Operand.tmp 109) 0, 0, _, _, none⟩) (v := ?vq336) (by kernel_rfl) rfl (by decide) (by kernel_rfl) (by kernel_rfl) (by kernel_rfl) (fun _ _ _ h => h) (Or.inl ⟨by rfl, fun W hW => ?_⟩) (by assumption) ?_
    rotate_left
    · go_simp
      with_reducible rfl
    try simp only [Act.put, List.setIfInBounds_toArray, List.set_cons_zero, List.set_cons_succ]
    refine wpG_ready (rs := [27]) (by kernel_rfl) (by simp) ?_
    refine AllG.last (o := ⟨none, Op.store 62 (Operand.tmp 110) (Operand.tmp 108), 0, _, _, none⟩) rfl (fun KK hKK => ?_)
    have hc0 := HS.out _ K327
    have hf0 := HF.out _ K327
    go_simp
    refine hKK.out _ _ ?_
    clear hKK KK hHeld
    try simp only [Act.put, List.setIfInBounds_toArray, List.set_cons_zero, List.set_cons_succ]
    refine wpG_done (by kernel_rfl) ?_ _
    refine NoPanic.normal ?_
    exact hK _ _ _ _ _ _ _ _ _ _ _ _ _ _ _ _ _ _ _ _ _ _ _ _ _ _ _ A297 c298 (.slice A333 N3 c334) W322 ob324 ob331 ge294 K327 ge328
end Go.Proofs.YtcopjjokhjealaaGreat
