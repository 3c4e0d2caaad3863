/- The reference: Log (printed by t12gen.py). -/
import Derived.Test.YtbllmpcpfmlemaaGreatT11
import Derived.Test.YtbllmpcpfmlemaaGreatSh
namespace Go.Proofs.YtbllmpcpfmlemaaGreat
open Go.RowKit
theorem info96 : (Tryz.prog.info? 96).map (fun i => (i.zero, i.size, i.bytes)) = some (some (.agg #[.string ⟨#[]⟩, .string ⟨#[]⟩]), 2, 32) := by kernel_rfl
theorem run_take66 (A : Option Addr) (n c i : Nat) (hi : i ≤ n) (hc : n ≤ c) (W : World) : (Instr.slice 66 (.slice A n c) none (some (.int .i64 i)) none).run Tryz.prog W = .ok (.slice A i c) W := by
  have hp : (i : Int) ≤ c := by omega
  have h0 : (0 : Int) ≤ i := by omega
  go_simp
theorem run_drop66 (A : Option Addr) (n c i : Nat) (hi : i ≤ n) (W : World) : (Instr.slice 66 (.slice A n c) (some (.int .i64 i)) none none).run Tryz.prog W = .ok (.slice (if c = i then A else A.map (·.add (i * 2))) (n - i) (c - i)) W := by
  have hp : (i : Int) ≤ n := by omega
  have h0 : (0 : Int) ≤ i := by omega
  go_simp
theorem rw_set1 {α : Type} {c : α → List Value} {sz : Nat} (hc : ∀ x, (c x).length = sz) : ∀ {L : List α} {k : Nat} (hk : k < L.length) {j : Nat} (_ : j < sz) {u : Value} {y : α} (_ : c y = (c L[k]).set j u), rw c (L.set k y) = (rw c L).set (k * sz + j) u := by
  intro L
  induction L with
  | nil => intro k hk; cases hk
  | cons x r ih =>
    intro k hk j hj u y hy
    cases k with
    | zero =>
      simp only [List.getElem_cons_zero] at hy
      rw [List.set_cons_zero, rw_cons, rw_cons, hy, Nat.zero_mul, Nat.zero_add, List.set_append_left _ _ (by rw [hc]; exact hj)]
    | succ k =>
      simp only [List.getElem_cons_succ] at hy
      rw [List.set_cons_succ, rw_cons, rw_cons, ih (by simpa using hk) hj hy, List.set_append_right _ _ (by rw [hc, Nat.succ_mul]; omega)]
      congr 2
      rw [hc, Nat.succ_mul]; omega
/-- What was logged has turned. -/
theorem RfM.lgTurn {w W6 : World} {d g : Nat} {cap : Nat} {ms : Int → Mr} {F G : List Nat} {C : St} (h : RfM w d (some ⟨g, 0, none⟩) cap ms F G C) (hr : Row0 C) {k : Nat} (hk : k < C.reverse.length) {x : One} (hx : C.reverse[k] = x) (f : List (Str × Str) → List (Str × Str))
    (hkp : Keeps [g] w W6) (v3 : Value) {m1 m2 m3 : Value} (hone : OneV w (m1, m2, m3) x G) (ho : W6.ownsRow 0 96 2 v3 (f x.lg).length (rw pc (f x.lg))) (hf : ∀ g ∈ fp v3, w.heap.size ≤ g)
    (hrow : W6.ownsRow 0 68 5 (.slice (some ⟨g, 0, none⟩) C.length cap) C.length (splice (rw (oc ms) C.reverse) (k * 5) [.int .i64 x.id, .int .i64 x.par, m1, m2, v3])) : RTurn w W6 d F G (upd C x.id (setLg f)) := by
  have hgF : g ∈ F := h.rF g (by simp [fp, Value.ownBlock])
  have hgG : g ∉ G := fun h' => h.off g h' hgF
  have hfar : ∀ {s : List Nat}, (∀ g' ∈ s, g' ∈ G) → ∀ g' ∈ s, g' ∉ [g] := fun hs g' hg h' => by rw [List.mem_singleton.1 h'] at hg; exact hgG (hs _ hg)
  refine h.turnX (G' := fp v3 ++ G) hr hk hx (setLg f) (fun _ => rfl) (fun _ => rfl) hkp m1 m2 v3 hrow ⟨own_keep hone.wr hkp (hfar hone.gw), (hone.rd.keep hkp (fun g' hg h' => by rw [List.mem_singleton.1 h'] at hg; exact hgG hg)).mono (fun g hg => List.mem_append_right _ hg), ho, fun g hg => List.mem_append_right _ (hone.gw g hg), fun g hg => List.mem_append_left _ hg⟩ (fun g hg => List.mem_append_right _ hg) (fun g' hg => ?_) (fun g' hg => ?_)
  · rcases List.mem_append.1 hg with h' | h'
    · exact .inr (hf g' h')
    · exact .inl h'
  · rcases List.mem_append.1 hg with h' | h'
    · exact own_lt ho h'
    · exact Nat.lt_of_lt_of_le (h.ltG g' h') hkp.size
noncomputable def lo9C : Code := ((Tryz.f48.body.bind (theRegion 9)).getD .skip)
set_option maxRecDepth 1000000 in
set_option maxHeartbeats 3200000 in
set_option linter.unusedSimpArgs false in
theorem lo9_any (w : World) (p n i c m2 c2 N3 : Nat) (A B : Option Addr) (ky vl : Str) (xs1 xs2 : List Value) (K : Exit → Act → World → Prop) (hi : i ≤ n) (hn : n ≤ 1000000) (hm2 : m2 ≤ n) (hN3 : 0 + i + 1 + m2 = N3)
    (hS : ∀ W, Keeps [] w W → W.cell? ⟨p, 4, none⟩ = some (.slice A n c))
    (hs1 : ∀ W, (Instr.slice 66 (.slice A n c) none (some (.int .i64 i)) none).run Tryz.prog W = .ok (.slice A i c) W) (hs2 : ∀ W, (Instr.slice 66 (.slice A n c) (some (.int .i64 i)) none none).run Tryz.prog W = .ok (.slice B m2 c2) W)
    (hr1 : ∀ W, Keeps [] w W → Reads W W.heap.size 2 A i xs1) (hr2 : ∀ W, Keeps [] w W → Reads W W.heap.size 2 B m2 xs2) (h1 : ∀ u ∈ xs1, u.oneCell' = true) (h2 : ∀ u ∈ xs2, u.oneCell' = true)
    (u0 u1 u4 u5 u6 u7 u8 u11 u12 u13 u14 u15 u16 u17 u18 u19 u20 u21 u22 u23 u24 u25 u26 u27 u28 u29 u30 u31 u32 u33 u34 u35 u36 u37 u38 u39 u40 u41 u42 u43 u44 u45 u46 u47 u48 u49 u50 u51 u52 u53 u54 u55 u56 u57 u58 u59 u60 u61 u62 u63 u64 u65 u66 u67 u68 u69 u70 u71 u72 u73 u74 u75 u76 u77 u78 u79 u80 u81 u82 u83 u84 u85 u86 u87 u88 u89 u90 u91 u92 u93 u94 u95 u96 u97 u98 u99 u100 u101 : Value)
    (hK : ∀ (v77 v78 v79 v80 v81 v82 v83 v84 v85 v86 v87 v88 v89 v90 v91 v92 : Value) (v3 : Value) (W : World), W.ownsRow 0 96 2 v3 N3 ([] ++ xs1 ++ [sv ky, sv vl] ++ xs2) → Keeps [] w W → (∀ g ∈ fp v3, w.heap.size ≤ g) → K .normal ⟨#[u0, u1, sv ky, sv vl, u4, u5, u6, u7, u8, .pointer (some ⟨p, 0, none⟩), .int .i64 (i : Nat), v3, u12, u13, u14, u15, u16, u17, u18, u19, u20, u21, u22, u23, u24, u25, u26, u27, u28, u29, u30, u31, u32, u33, u34, u35, u36, u37, u38, u39, u40, u41, u42, u43, u44, u45, u46, u47, u48, u49, u50, u51, u52, u53, u54, u55, u56, u57, u58, u59, u60, u61, u62, u63, u64, u65, u66, u67, u68, u69, u70, u71, u72, u73, u74, u75, u76, v77, v78, v79, v80, v81, v82, v83, v84, v85, v86, v87, v88, v89, v90, v91, v92, u93, u94, u95, u96, u97, u98, u99, u100, u101], []⟩ W) :
    Code.wp Tryz.prog lo9C K ⟨#[u0, u1, sv ky, sv vl, u4, u5, u6, u7, u8, .pointer (some ⟨p, 0, none⟩), .int .i64 (i : Nat), u11, u12, u13, u14, u15, u16, u17, u18, u19, u20, u21, u22, u23, u24, u25, u26, u27, u28, u29, u30, u31, u32, u33, u34, u35, u36, u37, u38, u39, u40, u41, u42, u43, u44, u45, u46, u47, u48, u49, u50, u51, u52, u53, u54, u55, u56, u57, u58, u59, u60, u61, u62, u63, u64, u65, u66, u67, u68, u69, u70, u71, u72, u73, u74, u75, u76, u77, u78, u79, u80, u81, u82, u83, u84, u85, u86, u87, u88, u89, u90, u91, u92, u93, u94, u95, u96, u97, u98, u99, u100, u101], []⟩ w := by
  have HS := Lib.hid hS
  have HR1 := Lib.hid hr1
  have HR2 := Lib.hid hr2
  have H1 := Lib.hid h1
  have H2 := Lib.hid h2
  have HN3 := Lib.hid hN3
  clear hS hr1 hr2 h1 h2 hN3
  conv => arg 2; whnf
  try dsimp only at hK ⊢
  refine wp_region_noPanic ?_
  refine wp_region_held_drew (S := fun W => W.cell? ⟨p, 4, none⟩ = some (.slice A n c)) (by kernel_rfl) (HS.out _ ((Keeps.refl [] w).drew)) (fun hHeld => ?_)
  obtain ⟨w0, hw0⟩ : ∃ w0, w.drew = w0 := ⟨_, rfl⟩
  try rw [hw0] at hHeld
  rw [hw0]
  have K0 : Keeps [] w w0 := by rw [← hw0]; exact (Keeps.refl [] w).drew
  clear hw0
  refine wpAnyH_take (i := 1) (oi := ⟨some 78, .fieldAddr 68 (.tmp 9) 4, 0, _, _, none⟩) (v := ?vq1) rfl (by kernel_rfl) (by kernel_rfl) (by kernel_rfl) (fun _ _ _ h => h) (Or.inl ⟨by rfl, fun W hW => ?_⟩) (by assumption) ?_
  rotate_left
  · go_simp
    with_reducible rfl
  try simp only [Act.put, lA, l0, lS]
  refine wpAnyH_take (i := 2) (oi := ⟨some 79, .load 66 (.tmp 78), 66, _, _, none⟩) (v := .slice A n c) rfl (by kernel_rfl) (by kernel_rfl) (by kernel_rfl) (fun _ _ _ h => h) (Or.inl ⟨by rfl, fun W hW => ?_⟩) (by assumption) ?_
  · go_simp
  try simp only [Act.put, lA, l0, lS]
  refine wpAnyH_take (i := 3) (oi := ⟨some 80, .move (.tmp 10), 3, _, _, none⟩) (v := ?vq2) rfl (by kernel_rfl) (by kernel_rfl) (by kernel_rfl) (fun _ _ _ h => h) (Or.inl ⟨by rfl, fun W hW => ?_⟩) (by assumption) ?_
  rotate_left
  · go_simp
    with_reducible rfl
  try simp only [Act.put, lA, l0, lS]
  refine wpAnyH_take (i := 4) (oi := ⟨some 81, .slice 66 (.tmp 79) none (some (.tmp 80)) none, 66, _, _, none⟩) (v := .slice A i c) rfl (by kernel_rfl) (by kernel_rfl) (by kernel_rfl) (fun _ _ _ h => h) (Or.inl ⟨by rfl, fun W hW => ?_⟩) (by assumption) ?_
  · go_simp
  try simp only [Act.put, lA, l0, lS]
  refine wpAnyH_take (i := 6) (oi := ⟨some 83, .move (.tmp 2), 9, _, _, none⟩) (v := ?vq3) rfl (by kernel_rfl) (by kernel_rfl) (by kernel_rfl) (fun _ _ _ h => h) (Or.inl ⟨by rfl, fun W hW => ?_⟩) (by assumption) ?_
  rotate_left
  · go_simp
    with_reducible rfl
  try simp only [Act.put, lA, l0, lS]
  refine wpAnyH_take (i := 7) (oi := ⟨some 84, .move (.tmp 3), 9, _, _, none⟩) (v := ?vq4) rfl (by kernel_rfl) (by kernel_rfl) (by kernel_rfl) (fun _ _ _ h => h) (Or.inl ⟨by rfl, fun W hW => ?_⟩) (by assumption) ?_
  rotate_left
  · go_simp
    with_reducible rfl
  try simp only [Act.put, lA, l0, lS]
  refine wpAnyH_take (i := 8) (oi := ⟨some 85, .build 96 #[(0, .tmp 83), (1, .tmp 84)], 96, _, _, none⟩) (v := ?vq5) rfl (by kernel_rfl) (by kernel_rfl) (by kernel_rfl) (fun _ _ _ h => h) (Or.inl ⟨by rfl, fun W hW => ?_⟩) (by assumption) ?_
  rotate_left
  · go_simp
    with_reducible rfl
  try simp only [Act.put, lA, l0, lS]
  refine wpAnyH_take (i := 11) (oi := ⟨some 88, .fieldAddr 68 (.tmp 9) 4, 0, _, _, none⟩) (v := ?vq6) rfl (by kernel_rfl) (by kernel_rfl) (by kernel_rfl) (fun _ _ _ h => h) (Or.inl ⟨by rfl, fun W hW => ?_⟩) (by assumption) ?_
  rotate_left
  · go_simp
    with_reducible rfl
  try simp only [Act.put, lA, l0, lS]
  refine wpAnyH_take (i := 12) (oi := ⟨some 89, .load 66 (.tmp 88), 66, _, _, none⟩) (v := .slice A n c) rfl (by kernel_rfl) (by kernel_rfl) (by kernel_rfl) (fun _ _ _ h => h) (Or.inl ⟨by rfl, fun W hW => ?_⟩) (by assumption) ?_
  · go_simp
  try simp only [Act.put, lA, l0, lS]
  refine wpAnyH_take (i := 13) (oi := ⟨some 90, .move (.tmp 10), 3, _, _, none⟩) (v := ?vq7) rfl (by kernel_rfl) (by kernel_rfl) (by kernel_rfl) (fun _ _ _ h => h) (Or.inl ⟨by rfl, fun W hW => ?_⟩) (by assumption) ?_
  rotate_left
  · go_simp
    with_reducible rfl
  try simp only [Act.put, lA, l0, lS]
  refine wpAnyH_take (i := 14) (oi := ⟨some 91, .slice 66 (.tmp 89) (some (.tmp 90)) none none, 66, _, _, none⟩) (v := .slice B m2 c2) rfl (by kernel_rfl) (by kernel_rfl) (by kernel_rfl) (fun _ _ _ h => h) (Or.inl ⟨by rfl, fun W hW => ?_⟩) (by assumption) ?_
  · go_simp
  try simp only [Act.put, lA, l0, lS]
  refine wpAnyH_ready (rs := [0, 9]) (by kernel_rfl) (by simp) ?_
  refine AllReadyH.cons (o := ⟨some 77, .buildSlice 66 0 #[], 66, _, _, none⟩) rfl (fun KK hKK => ?_) (AllReadyH.cons (o := ⟨some 86, .buildSlice 66 1 #[(0, .tmp 85)], 66, _, _, none⟩) rfl (fun KK hKK => ?_) AllReadyH.nil)
  · go_simp
    obtain ⟨b9, f13⟩ : ∃ b, w0.heap.size = b := ⟨_, rfl⟩
    rw [f13]
    obtain ⟨W8, e12⟩ : ∃ W, World.alloc w0 (.cells #[] 96) = W := ⟨_, rfl⟩
    rw [e12]
    have kk10 : Keeps [] w0 W8 := by rw [← e12]; exact (Keeps.refl [] _).alloc _
    have K11 : Keeps [] w W8 := K0.trans kk10 (by simp)
    have ob14 : W8.ownsRow 0 96 2 (.slice (some ⟨b9, 0, none⟩) 0 0) 0 ([] : List Value) := by rw [← e12, ← f13]; exact own_of_blk (Blk.new _ 96 #[]) (by omega) (by omega) rfl rfl
    have ge15 : ∀ g ∈ fp (.slice (some ⟨b9, 0, none⟩) 0 0), w.heap.size ≤ g := by have := K0.size; intro g hg; have h0 : g = b9 := (by simpa [fp, Value.ownBlock] using hg); omega
    refine hKK.out _ _ (HS.out _ K11) (fun hHeld => ?_)
    clear hKK KK e12 f13
    try simp only [Act.put, lA, l0, lS]
    refine wpAnyH_ready (rs := [5, 9]) (by kernel_rfl) (by simp) ?_
    refine AllReadyH.cons (o := ⟨some 82, .call { callee := .builtin .append, args := #[.tmp 77, .tmp 81], argTypes := #[66, 66] }, 66, _, _, none⟩) rfl (fun KK hKK => ?_) (AllReadyH.cons (o := ⟨some 86, .buildSlice 66 1 #[(0, .tmp 85)], 66, _, _, none⟩) rfl (fun KK hKK => ?_) AllReadyH.nil)
    · refine step_app (by rfl) (.tmp 77) (.tmp 81) 66 (by rfl) 96 (.agg #[.string ⟨#[]⟩, .string ⟨#[]⟩]) 2 32 Tryz.underlying66 info96 rfl (by omega) (.slice (some ⟨b9, 0, none⟩) 0 0) 0 (([] : List Value)) ?_ ob14 _ A i c (xs1) ?_ (HR1.out _ K11) H1.out (by unfold maxLen; omega) (by omega) (fun v17 W16 ob18 kk19 f20 => ?_)
      · first | (simp [Act.eval]; done) | (simp [Act.eval, Act.put]; done)
      · first | (simp [Act.eval]; done) | (simp [Act.eval, Act.put]; done)
      have K21 : Keeps [] w W16 := K11.trans kk19 (fun g hg => .inr (ge15 g hg))
      have ge22 : ∀ g ∈ fp v17, w.heap.size ≤ g := ges_app f20 ge15 K11.size
      refine hKK.out _ _ (HS.out _ K21) (fun hHeld => ?_)
      clear hKK KK
      try simp only [Act.put, lA, l0, lS]
      refine wpAnyH_ready (rs := [9]) (by kernel_rfl) (by simp) ?_
      refine AllReadyH.cons (o := ⟨some 86, .buildSlice 66 1 #[(0, .tmp 85)], 66, _, _, none⟩) rfl (fun KK hKK => ?_) AllReadyH.nil
      go_simp
      obtain ⟨b24, f28⟩ : ∃ b, W16.heap.size = b := ⟨_, rfl⟩
      rw [f28]
      obtain ⟨W23, e27⟩ : ∃ W, World.alloc W16 (.cells #[sv ky, sv vl] 96) = W := ⟨_, rfl⟩
      rw [e27]
      have kk25 : Keeps [] W16 W23 := by rw [← e27]; exact (Keeps.refl [] _).alloc _
      have K26 : Keeps [] w W23 := K21.trans kk25 (by simp)
      have d31 : ∀ g ∈ fp v17, g ∉ [b24] := by rw [← f28]; exact off_new (own_lts ob18)
      have ob32 := own_keep ob18 kk25 (by simp)
      have ob29 : Blk W23 b24 96 #[sv ky, sv vl] := by rw [← e27, ← f28]; exact Blk.new _ _ _
      have ge30 : ∀ g ∈ [b24], w.heap.size ≤ g := by have := K21.size; intro g hg; rw [List.mem_singleton.1 hg]; omega
      refine hKK.out _ _ (HS.out _ K26) (fun hHeld => ?_)
      clear hKK KK e27 f28
      try simp only [Act.put, lA, l0, lS]
      refine wpAnyH_ready (rs := [10]) (by kernel_rfl) (by simp) ?_
      refine AllReadyH.cons (o := ⟨some 87, .call { callee := .builtin .append, args := #[.tmp 82, .tmp 86], argTypes := #[66, 66] }, 66, _, _, none⟩) rfl (fun KK hKK => ?_) AllReadyH.nil
      refine step_app (by rfl) (.tmp 82) (.tmp 86) 66 (by rfl) 96 (.agg #[.string ⟨#[]⟩, .string ⟨#[]⟩]) 2 32 Tryz.underlying66 info96 rfl (by omega) v17 (0 + i) ([] ++ xs1) ?_ ob32 _ (some ⟨b24, 0, none⟩) 1 1 ([sv ky, sv vl]) ?_ (reads_blk ob29 rfl rfl) (by simp [Value.oneCell', sv]) (by unfold maxLen; omega) (by omega) (fun v34 W33 ob35 kk36 f37 => ?_)
      · first | (simp [Act.eval]; done) | (simp [Act.eval, Act.put]; done)
      · first | (simp [Act.eval]; done) | (simp [Act.eval, Act.put]; done)
      have K38 : Keeps [] w W33 := K26.trans kk36 (fun g hg => .inr (ge22 g hg))
      have ge39 : ∀ g ∈ fp v34, w.heap.size ≤ g := ges_app f37 ge22 K26.size
      have d40 : ∀ g ∈ fp v34, g ∉ [b24] := off_app f37 d31 ob29.lts
      have ob41 := ob29.keep kk36 (fun h0 => d31 _ h0 (by simp))
      refine hKK.out _ _ (HS.out _ K38) (fun hHeld => ?_)
      clear hKK KK
      try simp only [Act.put, lA, l0, lS]
      refine wpAnyH_ready (rs := [15]) (by kernel_rfl) (by simp) ?_
      refine AllReadyH.cons (o := ⟨some 92, .call { callee := .builtin .append, args := #[.tmp 87, .tmp 91], argTypes := #[66, 66] }, 66, _, _, none⟩) rfl (fun KK hKK => ?_) AllReadyH.nil
      refine step_app (by rfl) (.tmp 87) (.tmp 91) 66 (by rfl) 96 (.agg #[.string ⟨#[]⟩, .string ⟨#[]⟩]) 2 32 Tryz.underlying66 info96 rfl (by omega) v34 (0 + i + 1) ([] ++ xs1 ++ [sv ky, sv vl]) ?_ ob35 _ B m2 c2 (xs2) ?_ (HR2.out _ K38) H2.out (by unfold maxLen; omega) (by omega) (fun v43 W42 ob44 kk45 f46 => ?_)
      · first | (simp [Act.eval]; done) | (simp [Act.eval, Act.put]; done)
      · first | (simp [Act.eval]; done) | (simp [Act.eval, Act.put]; done)
      have K47 : Keeps [] w W42 := K38.trans kk45 (fun g hg => .inr (ge39 g hg))
      have ge48 : ∀ g ∈ fp v43, w.heap.size ≤ g := ges_app f46 ge39 K38.size
      have d49 : ∀ g ∈ fp v43, g ∉ [b24] := off_app f46 d40 ob41.lts
      have ob50 := ob41.keep kk45 (fun h0 => d40 _ h0 (by simp))
      rw [HN3.out] at ob44
      obtain ⟨A51, c52, rfl, -, -, -⟩ := own_shape ob44
      refine hKK.out _ _ (HS.out _ K47) (fun hHeld => ?_)
      clear hKK KK
      try simp only [Act.put, lA, l0, lS]
      refine wpAnyH_take (i := 16) (oi := ⟨some 11, .assign (.tmp 92), 66, _, _, none⟩) (v := ?vq53) rfl (by kernel_rfl) (by kernel_rfl) (by kernel_rfl) (fun _ _ _ h => h) (Or.inl ⟨by rfl, fun W hW => ?_⟩) (by assumption) ?_
      rotate_left
      · go_simp
        with_reducible rfl
      try simp only [Act.put, lA, l0, lS]
      refine wpAnyH_done (by kernel_rfl) ?_ _
      refine NoPanic.normal ?_
      exact hK _ _ _ _ _ _ _ _ _ _ _ _ _ _ _ _ (.slice A51 N3 c52) W42 ob44 K47 ge48
    · go_simp
      obtain ⟨b55, f59⟩ : ∃ b, W8.heap.size = b := ⟨_, rfl⟩
      rw [f59]
      obtain ⟨W54, e58⟩ : ∃ W, World.alloc W8 (.cells #[sv ky, sv vl] 96) = W := ⟨_, rfl⟩
      rw [e58]
      have kk56 : Keeps [] W8 W54 := by rw [← e58]; exact (Keeps.refl [] _).alloc _
      have K57 : Keeps [] w W54 := K11.trans kk56 (by simp)
      have d62 : ∀ g ∈ fp (.slice (some ⟨b9, 0, none⟩) 0 0), g ∉ [b55] := by rw [← f59]; exact off_new (own_lts ob14)
      have ob63 := own_keep ob14 kk56 (by simp)
      have ob60 : Blk W54 b55 96 #[sv ky, sv vl] := by rw [← e58, ← f59]; exact Blk.new _ _ _
      have ge61 : ∀ g ∈ [b55], w.heap.size ≤ g := by have := K11.size; intro g hg; rw [List.mem_singleton.1 hg]; omega
      refine hKK.out _ _ (HS.out _ K57) (fun hHeld => ?_)
      clear hKK KK e58 f59
      try simp only [Act.put, lA, l0, lS]
      refine wpAnyH_ready (rs := [5]) (by kernel_rfl) (by simp) ?_
      refine AllReadyH.cons (o := ⟨some 82, .call { callee := .builtin .append, args := #[.tmp 77, .tmp 81], argTypes := #[66, 66] }, 66, _, _, none⟩) rfl (fun KK hKK => ?_) AllReadyH.nil
      refine step_app (by rfl) (.tmp 77) (.tmp 81) 66 (by rfl) 96 (.agg #[.string ⟨#[]⟩, .string ⟨#[]⟩]) 2 32 Tryz.underlying66 info96 rfl (by omega) (.slice (some ⟨b9, 0, none⟩) 0 0) 0 (([] : List Value)) ?_ ob63 _ A i c (xs1) ?_ (HR1.out _ K57) H1.out (by unfold maxLen; omega) (by omega) (fun v65 W64 ob66 kk67 f68 => ?_)
      · first | (simp [Act.eval]; done) | (simp [Act.eval, Act.put]; done)
      · first | (simp [Act.eval]; done) | (simp [Act.eval, Act.put]; done)
      have K69 : Keeps [] w W64 := K57.trans kk67 (fun g hg => .inr (ge15 g hg))
      have ge70 : ∀ g ∈ fp v65, w.heap.size ≤ g := ges_app f68 ge15 K57.size
      have d71 : ∀ g ∈ fp v65, g ∉ [b55] := off_app f68 d62 ob60.lts
      have ob72 := ob60.keep kk67 (fun h0 => d62 _ h0 (by simp))
      refine hKK.out _ _ (HS.out _ K69) (fun hHeld => ?_)
      clear hKK KK
      try simp only [Act.put, lA, l0, lS]
      refine wpAnyH_ready (rs := [10]) (by kernel_rfl) (by simp) ?_
      refine AllReadyH.cons (o := ⟨some 87, .call { callee := .builtin .append, args := #[.tmp 82, .tmp 86], argTypes := #[66, 66] }, 66, _, _, none⟩) rfl (fun KK hKK => ?_) AllReadyH.nil
      refine step_app (by rfl) (.tmp 82) (.tmp 86) 66 (by rfl) 96 (.agg #[.string ⟨#[]⟩, .string ⟨#[]⟩]) 2 32 Tryz.underlying66 info96 rfl (by omega) v65 (0 + i) ([] ++ xs1) ?_ ob66 _ (some ⟨b55, 0, none⟩) 1 1 ([sv ky, sv vl]) ?_ (reads_blk ob72 rfl rfl) (by simp [Value.oneCell', sv]) (by unfold maxLen; omega) (by omega) (fun v74 W73 ob75 kk76 f77 => ?_)
      · first | (simp [Act.eval]; done) | (simp [Act.eval, Act.put]; done)
      · first | (simp [Act.eval]; done) | (simp [Act.eval, Act.put]; done)
      have K78 : Keeps [] w W73 := K69.trans kk76 (fun g hg => .inr (ge70 g hg))
      have ge79 : ∀ g ∈ fp v74, w.heap.size ≤ g := ges_app f77 ge70 K69.size
      have d80 : ∀ g ∈ fp v74, g ∉ [b55] := off_app f77 d71 ob72.lts
      have ob81 := ob72.keep kk76 (fun h0 => d71 _ h0 (by simp))
      refine hKK.out _ _ (HS.out _ K78) (fun hHeld => ?_)
      clear hKK KK
      try simp only [Act.put, lA, l0, lS]
      refine wpAnyH_ready (rs := [15]) (by kernel_rfl) (by simp) ?_
      refine AllReadyH.cons (o := ⟨some 92, .call { callee := .builtin .append, args := #[.tmp 87, .tmp 91], argTypes := #[66, 66] }, 66, _, _, none⟩) rfl (fun KK hKK => ?_) AllReadyH.nil
      refine step_app (by rfl) (.tmp 87) (.tmp 91) 66 (by rfl) 96 (.agg #[.string ⟨#[]⟩, .string ⟨#[]⟩]) 2 32 Tryz.underlying66 info96 rfl (by omega) v74 (0 + i + 1) ([] ++ xs1 ++ [sv ky, sv vl]) ?_ ob75 _ B m2 c2 (xs2) ?_ (HR2.out _ K78) H2.out (by unfold maxLen; omega) (by omega) (fun v83 W82 ob84 kk85 f86 => ?_)
      · first | (simp [Act.eval]; done) | (simp [Act.eval, Act.put]; done)
      · first | (simp [Act.eval]; done) | (simp [Act.eval, Act.put]; done)
      have K87 : Keeps [] w W82 := K78.trans kk85 (fun g hg => .inr (ge79 g hg))
      have ge88 : ∀ g ∈ fp v83, w.heap.size ≤ g := ges_app f86 ge79 K78.size
      have d89 : ∀ g ∈ fp v83, g ∉ [b55] := off_app f86 d80 ob81.lts
      have ob90 := ob81.keep kk85 (fun h0 => d80 _ h0 (by simp))
      rw [HN3.out] at ob84
      obtain ⟨A91, c92, rfl, -, -, -⟩ := own_shape ob84
      refine hKK.out _ _ (HS.out _ K87) (fun hHeld => ?_)
      clear hKK KK
      try simp only [Act.put, lA, l0, lS]
      refine wpAnyH_take (i := 16) (oi := ⟨some 11, .assign (.tmp 92), 66, _, _, none⟩) (v := ?vq93) rfl (by kernel_rfl) (by kernel_rfl) (by kernel_rfl) (fun _ _ _ h => h) (Or.inl ⟨by rfl, fun W hW => ?_⟩) (by assumption) ?_
      rotate_left
      · go_simp
        with_reducible rfl
      try simp only [Act.put, lA, l0, lS]
      refine wpAnyH_done (by kernel_rfl) ?_ _
      refine NoPanic.normal ?_
      exact hK _ _ _ _ _ _ _ _ _ _ _ _ _ _ _ _ (.slice A91 N3 c92) W82 ob84 K87 ge88
  · go_simp
    obtain ⟨b95, f99⟩ : ∃ b, w0.heap.size = b := ⟨_, rfl⟩
    rw [f99]
    obtain ⟨W94, e98⟩ : ∃ W, World.alloc w0 (.cells #[sv ky, sv vl] 96) = W := ⟨_, rfl⟩
    rw [e98]
    have kk96 : Keeps [] w0 W94 := by rw [← e98]; exact (Keeps.refl [] _).alloc _
    have K97 : Keeps [] w W94 := K0.trans kk96 (by simp)
    have ob100 : Blk W94 b95 96 #[sv ky, sv vl] := by rw [← e98, ← f99]; exact Blk.new _ _ _
    have ge101 : ∀ g ∈ [b95], w.heap.size ≤ g := by have := K0.size; intro g hg; rw [List.mem_singleton.1 hg]; omega
    refine hKK.out _ _ (HS.out _ K97) (fun hHeld => ?_)
    clear hKK KK e98 f99
    try simp only [Act.put, lA, l0, lS]
    refine wpAnyH_ready (rs := [0]) (by kernel_rfl) (by simp) ?_
    refine AllReadyH.cons (o := ⟨some 77, .buildSlice 66 0 #[], 66, _, _, none⟩) rfl (fun KK hKK => ?_) AllReadyH.nil
    go_simp
    obtain ⟨b103, f107⟩ : ∃ b, W94.heap.size = b := ⟨_, rfl⟩
    rw [f107]
    obtain ⟨W102, e106⟩ : ∃ W, World.alloc W94 (.cells #[] 96) = W := ⟨_, rfl⟩
    rw [e106]
    have kk104 : Keeps [] W94 W102 := by rw [← e106]; exact (Keeps.refl [] _).alloc _
    have K105 : Keeps [] w W102 := K97.trans kk104 (by simp)
    have d110 : ∀ g ∈ [b95], g ∉ [b103] := by rw [← f107]; exact off_new ob100.lts
    have ob111 := ob100.keep kk104 (by simp)
    have ob108 : W102.ownsRow 0 96 2 (.slice (some ⟨b103, 0, none⟩) 0 0) 0 ([] : List Value) := by rw [← e106, ← f107]; exact own_of_blk (Blk.new _ 96 #[]) (by omega) (by omega) rfl rfl
    have ge109 : ∀ g ∈ fp (.slice (some ⟨b103, 0, none⟩) 0 0), w.heap.size ≤ g := by have := K97.size; intro g hg; have h0 : g = b103 := (by simpa [fp, Value.ownBlock] using hg); omega
    refine hKK.out _ _ (HS.out _ K105) (fun hHeld => ?_)
    clear hKK KK e106 f107
    try simp only [Act.put, lA, l0, lS]
    refine wpAnyH_ready (rs := [5]) (by kernel_rfl) (by simp) ?_
    refine AllReadyH.cons (o := ⟨some 82, .call { callee := .builtin .append, args := #[.tmp 77, .tmp 81], argTypes := #[66, 66] }, 66, _, _, none⟩) rfl (fun KK hKK => ?_) AllReadyH.nil
    refine step_app (by rfl) (.tmp 77) (.tmp 81) 66 (by rfl) 96 (.agg #[.string ⟨#[]⟩, .string ⟨#[]⟩]) 2 32 Tryz.underlying66 info96 rfl (by omega) (.slice (some ⟨b103, 0, none⟩) 0 0) 0 (([] : List Value)) ?_ ob108 _ A i c (xs1) ?_ (HR1.out _ K105) H1.out (by unfold maxLen; omega) (by omega) (fun v113 W112 ob114 kk115 f116 => ?_)
    · first | (simp [Act.eval]; done) | (simp [Act.eval, Act.put]; done)
    · first | (simp [Act.eval]; done) | (simp [Act.eval, Act.put]; done)
    have K117 : Keeps [] w W112 := K105.trans kk115 (fun g hg => .inr (ge109 g hg))
    have ge118 : ∀ g ∈ fp v113, w.heap.size ≤ g := ges_app f116 ge109 K105.size
    have d119 : ∀ g ∈ fp v113, g ∉ [b95] := off_app f116 (off_symm d110) ob111.lts
    have ob120 := ob111.keep kk115 (fun h0 => (off_symm d110) _ h0 (by simp))
    refine hKK.out _ _ (HS.out _ K117) (fun hHeld => ?_)
    clear hKK KK
    try simp only [Act.put, lA, l0, lS]
    refine wpAnyH_ready (rs := [10]) (by kernel_rfl) (by simp) ?_
    refine AllReadyH.cons (o := ⟨some 87, .call { callee := .builtin .append, args := #[.tmp 82, .tmp 86], argTypes := #[66, 66] }, 66, _, _, none⟩) rfl (fun KK hKK => ?_) AllReadyH.nil
    refine step_app (by rfl) (.tmp 82) (.tmp 86) 66 (by rfl) 96 (.agg #[.string ⟨#[]⟩, .string ⟨#[]⟩]) 2 32 Tryz.underlying66 info96 rfl (by omega) v113 (0 + i) ([] ++ xs1) ?_ ob114 _ (some ⟨b95, 0, none⟩) 1 1 ([sv ky, sv vl]) ?_ (reads_blk ob120 rfl rfl) (by simp [Value.oneCell', sv]) (by unfold maxLen; omega) (by omega) (fun v122 W121 ob123 kk124 f125 => ?_)
    · first | (simp [Act.eval]; done) | (simp [Act.eval, Act.put]; done)
    · first | (simp [Act.eval]; done) | (simp [Act.eval, Act.put]; done)
    have K126 : Keeps [] w W121 := K117.trans kk124 (fun g hg => .inr (ge118 g hg))
    have ge127 : ∀ g ∈ fp v122, w.heap.size ≤ g := ges_app f125 ge118 K117.size
    have d128 : ∀ g ∈ fp v122, g ∉ [b95] := off_app f125 d119 ob120.lts
    have ob129 := ob120.keep kk124 (fun h0 => d119 _ h0 (by simp))
    refine hKK.out _ _ (HS.out _ K126) (fun hHeld => ?_)
    clear hKK KK
    try simp only [Act.put, lA, l0, lS]
    refine wpAnyH_ready (rs := [15]) (by kernel_rfl) (by simp) ?_
    refine AllReadyH.cons (o := ⟨some 92, .call { callee := .builtin .append, args := #[.tmp 87, .tmp 91], argTypes := #[66, 66] }, 66, _, _, none⟩) rfl (fun KK hKK => ?_) AllReadyH.nil
    refine step_app (by rfl) (.tmp 87) (.tmp 91) 66 (by rfl) 96 (.agg #[.string ⟨#[]⟩, .string ⟨#[]⟩]) 2 32 Tryz.underlying66 info96 rfl (by omega) v122 (0 + i + 1) ([] ++ xs1 ++ [sv ky, sv vl]) ?_ ob123 _ B m2 c2 (xs2) ?_ (HR2.out _ K126) H2.out (by unfold maxLen; omega) (by omega) (fun v131 W130 ob132 kk133 f134 => ?_)
    · first | (simp [Act.eval]; done) | (simp [Act.eval, Act.put]; done)
    · first | (simp [Act.eval]; done) | (simp [Act.eval, Act.put]; done)
    have K135 : Keeps [] w W130 := K126.trans kk133 (fun g hg => .inr (ge127 g hg))
    have ge136 : ∀ g ∈ fp v131, w.heap.size ≤ g := ges_app f134 ge127 K126.size
    have d137 : ∀ g ∈ fp v131, g ∉ [b95] := off_app f134 d128 ob129.lts
    have ob138 := ob129.keep kk133 (fun h0 => d128 _ h0 (by simp))
    rw [HN3.out] at ob132
    obtain ⟨A139, c140, rfl, -, -, -⟩ := own_shape ob132
    refine hKK.out _ _ (HS.out _ K135) (fun hHeld => ?_)
    clear hKK KK
    try simp only [Act.put, lA, l0, lS]
    refine wpAnyH_take (i := 16) (oi := ⟨some 11, .assign (.tmp 92), 66, _, _, none⟩) (v := ?vq141) rfl (by kernel_rfl) (by kernel_rfl) (by kernel_rfl) (fun _ _ _ h => h) (Or.inl ⟨by rfl, fun W hW => ?_⟩) (by assumption) ?_
    rotate_left
    · go_simp
      with_reducible rfl
    try simp only [Act.put, lA, l0, lS]
    refine wpAnyH_done (by kernel_rfl) ?_ _
    refine NoPanic.normal ?_
    exact hK _ _ _ _ _ _ _ _ _ _ _ _ _ _ _ _ (.slice A139 N3 c140) W130 ob132 K135 ge136
set_option maxRecDepth 100000 in
set_option maxHeartbeats 12800000 in
theorem rLog_any {P : List Str} {w : World} {d : Nat} {F G : List Nat} {C : St} (h : Rf w d F G C) (hW : WF P C) (hP : PoolOk P) (hl : C.length ≤ 1000000) (hlg : lgSize C ≤ 400000000) (i : Int) (name s : Str) (hs : s.length ≤ 400000000) :
    Calls Tryz.prog 48 #[.pointer (some ⟨d, 0, none⟩), .int .i64 i, sv name, sv s] w fun e w' => e = .returned (.tuple #[]) ∧ RTurn w w' d F G (if s = [] then C else logP C i name s) := by
  cases hh : has C i with
  | false =>
    have e0 : (if s = [] then C else logP C i name s) = C := by
      split
      · rfl
      · unfold logP; exact upd_none _ hh
    have CP := Lib.hid (place_any h hl i)
    rw [plc_no hh] at CP
    rw [e0]
    have HR := Lib.hid (RTurn.same h (Keeps.refl _ _))
    clear h hh e0
    go_enter Tryz.func48, Tryz.ntmps48
    go_wp2_with fail
    refine CP.out.mono ?_
    rintro e w1 ⟨rfl, rfl⟩
    go_wp2_with fail
    refine bodyPost_ret (results_none rfl _ _ _) rfl ?_
    exact ⟨rfl, HR.out⟩
  | true =>
    have hR0 := hW.tree.row0
    obtain ⟨x, j, g, cap, ms, A1, A2, A3, p1, p2, p3, hf, hx, rfl, hp, hjn, hat, hz, hM, hpl⟩ := h.openM hR0 hh
    have CP := Lib.hid (place_any h hl x.id)
    rw [hp] at CP
    have i0 : ¬ ((j : Int) < 0) := by omega
    by_cases hs0 : s = []
    · rw [if_pos hs0]
      have HR := Lib.hid (RTurn.same h (Keeps.refl _ _))
      subst hs0
      clear h hh hf hx hp hjn hat hz hM hpl hR0 hW hP
      go_enter Tryz.func48, Tryz.ntmps48
      go_wp2_with fail
      refine CP.out.mono ?_
      rintro e w1 ⟨rfl, rfl⟩
      go_wp2_with fail
      refine bodyPost_ret (results_none rfl _ _ _) rfl ?_
      exact ⟨rfl, HR.out⟩
    rw [if_neg hs0]
    have s1 : s.isEmpty = false := by cases s <;> simp_all
    have s2 : (s == ([] : Str)) = false := by simpa using hs0
    have hok := hW.ok x hx
    have hn3 : x.lg.length ≤ 1000000 := hP.leK hok.lg hok.lp
    have hsz : lgLen x.lg ≤ 400000000 := Nat.le_trans (lgSize_mem hx) hlg
    have HEND : Hid (∀ W6, Keeps [g] w W6 → ∀ (v3 : Value) (nn : Nat), W6.ownsRow 0 96 2 v3 nn (rw pc (lgAdd name s x.lg)) → (∀ g ∈ fp v3, w.heap.size ≤ g) →
        W6.ownsRow 0 68 5 (.slice (some ⟨g, 0, none⟩) C.length cap) C.length (splice (rw (oc ms) C.reverse) (j * 5) [.int .i64 x.id, .int .i64 x.par, .slice A1 x.wr.length p1, .slice A2 x.rd.length p2, v3]) → RTurn w W6 d F G (logP C x.id name s)) := Lib.hid (fun W6 hk v3 nn ho hf hr => by
      obtain ⟨hk', hxx⟩ := hat
      have hnn := own_len ho
      rw [rw_len pc_len] at hnn
      obtain rfl : nn = (lgAdd name s x.lg).length := by omega
      exact hM.lgTurn hR0 hk' hxx (lgAdd name s) hk v3 hpl.o ho hf hr)
    have HASC := Lib.hid hok.lg
    have HF0 := Lib.hid hpl.f
    have hdl := hpl.dl
    have HGL := Lib.hid hpl.gl
    have HROW := Lib.hid hM.row
    have HOW := Lib.hid hpl.o.lg
    have hpc1 : x.lg.length ≤ p3 := by
      obtain ⟨_, _, hv, h1, -, -⟩ := own_shape hpl.o.lg
      dsimp only at hv
      injection hv with e1 e2 e3
      omega
    obtain ⟨f0, c0, c1, c2, c3, c4, -, -, -⟩ := hpl
    obtain ⟨n, hn⟩ : ∃ n, C.length = n := ⟨_, rfl⟩
    have i2 : (0 : Int) ≤ (j : Int) := by omega
    have i3 : (j : Int) < (n : Int) := by omega
    rw [hn] at hjn f0 HF0 HROW HEND hl
    obtain ⟨l, hll⟩ : ∃ l, x.lg = l := ⟨_, rfl⟩
    rw [hll] at hn3 HEND HASC HOW hpc1 c4 hsz
    have HSZ := Lib.hid hsz
    obtain ⟨zi, hzi⟩ : ∃ z, x.id = z := ⟨_, rfl⟩
    obtain ⟨zp, hzp⟩ : ∃ z, x.par = z := ⟨_, rfl⟩
    obtain ⟨n2, hn2⟩ : ∃ z, x.rd.length = z := ⟨_, rfl⟩
    obtain ⟨n1, hn1⟩ : ∃ z, x.wr.length = z := ⟨_, rfl⟩
    obtain ⟨n3, hnn3⟩ : ∃ z, l.length = z := ⟨_, rfl⟩
    have HN3 := Lib.hid hnn3
    rw [hzi, hzp, hn2, hn1] at HEND
    rw [hzi] at c0 CP ⊢
    rw [hzp] at c1
    rw [hnn3] at c4 hn3 hpc1 HOW
    rw [hn2] at c3
    rw [hn1] at c2
    have HS0 := Lib.hid hs0
    clear h hh hf hx hp hz hM hok hll hzi hzp hn2 hn1 hnn3 hn hat hs0 hsz hlg
    go_enter Tryz.func48, Tryz.ntmps48
    go_wp2_with fail
    refine CP.out.mono ?_
    rintro e w1 ⟨rfl, rfl⟩
    clear CP
    go_wp2_with fail
    obtain ⟨W, hW⟩ : ∃ W, w1.alloc (.cells #[.int .i64 zi, .int .i64 zp, .slice A1 n1 p1, .slice A2 n2 p2, .slice A3 n3 p3] 68) = W := ⟨_, rfl⟩
    obtain ⟨b, hb⟩ : ∃ b, w1.heap.size = b := ⟨_, rfl⟩
    have b0 : Blk W b 68 #[.int .i64 zi, .int .i64 zp, .slice A1 n1 p1, .slice A2 n2 p2, .slice A3 n3 p3] := by rw [← hW, ← hb]; exact Blk.new _ _ _
    have k0 : Keeps [] w1 W := by rw [← hW]; exact (Keeps.refl _ _).alloc _
    rw [hW]
    rw [hb]
    have KB := Lib.hid k0
    have BB := Lib.hid b0
    have HBW : Hid (w1.heap.size ≤ b) := Lib.hid (by omega)
    have x2 : W.cell? ⟨b, 4, none⟩ = some (.slice A3 n3 p3) := b0.cell 4
    have HRW : Hid (∀ W0, Keeps [] W W0 → Reads W0 W0.heap.size 2 A3 n3 (rw pc l)) := Lib.hid (fun W0 hk => reads_own (own_keep HOW.out (KB.out.trans hk (by simp)) (by simp)))
    have HOW2 := Lib.hid (own_keep HOW.out k0 (by simp))
    clear hW hb k0 b0 f0 c0 c1 c2 c3 c4 HOW i0
    go_loopw [10] (fun iv wr => ∃ q : Nat, q ≤ n3 ∧ iv = .int .i64 q ∧ wr = W ∧ ∀ j (hj : j < l.length), j < q → l[j].1 < name) (fun iv _ => n3 - (intOf iv).toNat)
    case atStart => exact ⟨0, by omega, rfl, rfl, fun j _ h => absurd h (by omega)⟩
    case round =>
      obtain ⟨q, hq, rfl, rfl, hlt0⟩ := hrel
      have HLT := Lib.hid hlt0
      clear hlt0
      have HR1 : Hid (∀ W0, Keeps [] wr W0 → Reads W0 W0.heap.size 2 A3 q (rw pc (l.take q))) := Lib.hid (fun W0 hk => by
        have h1 := (HRW.out W0 hk).take hq
        rw [rw_take pc_len] at h1
        exact h1)
      have hs1 := run_take66 A3 n3 p3 q hq hpc1
      have O0 : Hid ((wr.alloc (.cells #[] 96)).ownsRow 0 96 2 (.slice (some ⟨wr.heap.size, 0, none⟩) 0 0) 0 []) := Lib.hid (own_of_blk (Blk.new wr 96 #[]) (by omega) (by omega) rfl rfl)
      have KA : Hid (Keeps [] wr (wr.alloc (.cells #[] 96))) := Lib.hid ((Keeps.refl _ _).alloc _)
      have BA := Lib.hid (BB.out.alloc (.cells #[] 96))
      have xa : (wr.alloc (.cells #[] 96)).cell? ⟨b, 4, none⟩ = some (.slice A3 n3 p3) := BA.out.cell 4
      by_cases hlt : q < n3
      · have hql : q < l.length := by rw [HN3.out]; exact hlt
        obtain ⟨A', c', hv, -, -, hA⟩ := own_shape HOW2.out
        obtain ⟨bl, hAA⟩ := hA (by omega)
        obtain ⟨rfl, rfl⟩ : A3 = A' ∧ p3 = c' := by injection hv with h1 h2 h3; exact ⟨h1, h3⟩
        have y0 : wr.cell? ⟨bl, q * 2, none⟩ = some (sv l[q].1) := by
          have := HOW2.out
          rw [hAA] at this
          exact own_cell this (by rw [← Nat.add_zero (q * 2), rw_at pc_len hql (by omega)]; rfl)
        have j0 : (0 : Int) ≤ (q : Int) := by omega
        have j1 : (q : Int) < (n3 : Int) := by omega
        have j2 : q < n3 := hlt
        obtain ⟨y, hy⟩ : ∃ y, l[q].1 = y := ⟨_, rfl⟩
        have HQL := Lib.hid hql
        replace y0 : wr.cell? ⟨bl, q * 2, none⟩ = some (sv y) := by rw [← hy]; exact y0
        have hcmp : Op.bytesLess y name = decide (y < name) := Proofs.bytesLess_eq _ _
        by_cases hly : y < name
        · rw [decide_eq_true hly] at hcmp
          have HN : Hid (∀ j (hj : j < l.length), j < q + 1 → l[j].1 < name) := Lib.hid (fun j hj hjq => by
            by_cases hj2 : j < q
            · exact HLT.out j hj hj2
            · obtain rfl : j = q := by omega
              rw [hy]; exact hly)
          clear hly hy HLT hs1 hql hv hA xa
          subst hAA
          go_wp2_with fail
          exact ⟨⟨q + 1, by omega, rfl, (by first | rfl | trivial), HN.out⟩, by simp only [intOf]; omega⟩
        · rw [decide_eq_false hly] at hcmp
          have HSP : Hid (Spot l name q) := Lib.hid ⟨by omega, HLT.out, fun h => by rw [hy]; exact hly⟩
          have HR3 : Hid (∀ W0, Keeps [] wr W0 → Reads W0 W0.heap.size 2 (some ⟨bl, 0 + q * 2, none⟩) (n3 - q) (rw pc (l.drop q))) := Lib.hid (fun W0 hk => by
            have h1 := (HRW.out W0 hk).cut (k := q) (cap := p3) (by omega) hpc1
            rw [rw_drop pc_len, if_neg (by omega), hAA, Option.map_some, add_of_plain] at h1
            exact h1)
          have hs2 := run_drop66 A3 n3 p3 q hq
          rw [if_neg (by omega), hAA, Option.map_some, add_of_plain] at hs2
          have im : min (q : Int) ((n3 : Int) - 1) = (q : Int) := by omega
          have im0 : (0 : Int) ≤ (n3 : Int) - 1 := by omega
          have hl4 : ∀ W : World, ∀ A4 p4, W.ownsRow 0 96 2 (.slice A4 n3 p4) n3 (rw pc l) → ∃ b4, A4 = some ⟨b4, 0, none⟩ ∧ W.cell? ⟨b4, q * 2, none⟩ = some (sv y) ∧ W.cell? ⟨b4, q * 2 + 1, none⟩ = some (sv l[q].2) ∧ W.frozen? ⟨b4, q * 2 + 1, none⟩ = false := fun W A4 p4 ho => by
            obtain ⟨A'', c'', hv', -, -, hA'⟩ := own_shape ho
            obtain ⟨b4, hb4⟩ := hA' (by omega)
            obtain ⟨rfl, rfl⟩ : A4 = A'' ∧ p4 = c'' := by injection hv' with h1 h2 h3; exact ⟨h1, h3⟩
            subst hb4
            refine ⟨b4, rfl, own_cell ho ?_, own_cell ho ?_, own_free ho _⟩
            · rw [← Nat.add_zero (q * 2), rw_at pc_len hql (by omega), ← hy]; rfl
            · rw [rw_at pc_len hql (by omega)]; rfl
          have HL4 := Lib.hid hl4
          by_cases hye : y = name
          · have HEQ : Hid (l[q].1 = name) := Lib.hid (by exact hy.trans hye)
            obtain ⟨old, hold⟩ : ∃ o, l[q].2 = o := ⟨_, rfl⟩
            have hlold : old.length ≤ 400000000 := by
              have h1 := lgLen_get (mget_eq HSP.out hql HEQ.out)
              have h2 := HSZ.out
              rw [← hold]
              exact Nat.le_trans h1 h2
            have hlen : ¬ (9223372036854775807 < old.length + s.length) := by omega
            have hlst : lgAdd name s l = l.set q (name, old ++ s) := by
              unfold lgAdd
              rw [mput_eq HSP.out _ HQL.out HEQ.out, mget_eq HSP.out hql HEQ.out, List.set_eq_take_append_cons_drop, if_pos hql]
              show _ ++ (name, l[q].2 ++ s) :: _ = _
              rw [hold]
            have HLS := Lib.hid hlst
            have hset : rw pc (l.set q (name, old ++ s)) = (rw pc l).set (q * 2 + 1) (sv (old ++ s)) := rw_set1 pc_len hql (by omega) (by
              show [sv name, sv (old ++ s)] = [sv l[q].1, sv l[q].2].set 1 (sv (old ++ s))
              rw [HEQ.out]; rfl)
            have HSET := Lib.hid hset
            have HL5 : Hid (∀ W : World, ∀ A4 p4, W.ownsRow 0 96 2 (.slice A4 n3 p4) n3 (rw pc l) → ∃ b4, A4 = some ⟨b4, 0, none⟩ ∧ W.cell? ⟨b4, q * 2, none⟩ = some (sv name) ∧ W.cell? ⟨b4, q * 2 + 1, none⟩ = some (sv old) ∧ W.frozen? ⟨b4, q * 2 + 1, none⟩ = false) := Lib.hid (by
              rw [← hye, ← hold]; exact hl4)
            rw [hye] at y0 hcmp
            clear hye hly hy HLT hql hold hlst hset hl4 HL4 HR3 hv hA
            subst hAA
            go_wp2_with (at_builtin; refine wpList_app _ rfl (.tmp 45) (.tmp 47) _ rfl 96 (.agg #[.string ⟨#[]⟩, .string ⟨#[]⟩]) 2 32 Tryz.underlying66 info96 rfl (by omega) (.slice (some ⟨wr.heap.size, 0, none⟩) 0 0) 0 [] rfl O0.out _ _ _ _ _ rfl (HRW.out _ KA.out) (rw_one pc_one _) (by unfold maxLen; omega) (by omega) ?_)
            intro v4 w4 o4 k4 f4
            obtain ⟨A4, p4, rfl, -, -, -⟩ := own_shape o4
            have O4 := Lib.hid o4
            have F4 : Hid (∀ g ∈ fp (.slice A4 n3 p4), w1.heap.size ≤ g) := Lib.hid (fun g hg => by
              have h0 := KB.out.size
              rcases f4 g hg with h2 | h2
              · have : g = wr.heap.size := by simpa [fp, Value.ownBlock] using h2
                omega
              · omega)
            have K4 : Hid (Keeps [] wr w4) := Lib.hid (KA.out.trans k4 (fun g hg => .inr (by have h1 : g = wr.heap.size := (by simpa [fp, Value.ownBlock] using hg); omega)))
            have B4 := Lib.hid (BA.out.keep k4 (fun h' => own_blk_off O0.out BA.out (by decide) h'))
            clear o4 k4 f4 O0 KA BA x2 xa
            have x4 : w4.cell? ⟨b, 4, none⟩ = some (.slice (some ⟨bl, 0, none⟩) n3 p3) := B4.out.cell 4
            have y4 : w4.frozen? ⟨b, 4, none⟩ = false := B4.out.frozen 4
            obtain ⟨b4, hb4, z0, z1, z2⟩ := HL5.out w4 A4 p4 O4.out
            subst hb4
            have hb4b : b4 ≠ b := fun e => by
              have := own_blk_off O4.out B4.out (by decide)
              rw [← e] at this
              exact this (by simp [fp, Value.ownBlock])
            have o5 : (w4.setCell ⟨b4, q * 2 + 1, none⟩ (sv (old ++ s))).ownsRow 0 96 2 (.slice (some ⟨b4, 0, none⟩) n3 p4) n3 (rw pc (l.set q (name, old ++ s))) := by
              rw [HSET.out]; exact own_set O4.out _ _
            have b5 := B4.out.far (p := ⟨b4, q * 2 + 1, none⟩) (fun e => hb4b e.symm) (sv (old ++ s))
            have k5 : Keeps [] w1 (w4.setCell ⟨b4, q * 2 + 1, none⟩ (sv (old ++ s))) := (KB.out.trans K4.out (by simp)).setCell (.inr (F4.out b4 (by simp [fp, Value.ownBlock]))) _
            obtain ⟨W5, hW5⟩ : ∃ W5, w4.setCell ⟨b4, q * 2 + 1, none⟩ (sv (old ++ s)) = W5 := ⟨_, rfl⟩
            rw [hW5] at o5 b5 k5
            have B5 := Lib.hid b5
            have O5 := Lib.hid o5
            have K5 := Lib.hid k5
            have HW5 := Lib.hid hW5
            clear b5 o5 k5 hW5
            go_upto_region 10 with fail
            have e5 : w4.setCell ⟨b4, q * 2 + 1, none⟩ (.string (bs old ++ bs s)) = W5 := by rw [← HW5.out, show sv (old ++ s) = .string (bs (old ++ s)) from rfl, bs_append]
            rw [e5]
            have x5 : W5.cell? ⟨b, 4, none⟩ = some (.slice (some ⟨bl, 0, none⟩) n3 p3) := B5.out.cell 4
            have y5 : W5.frozen? ⟨b, 4, none⟩ = false := B5.out.frozen 4
            have B6 : Hid (Blk (W5.setCell ⟨b, 4, none⟩ (.slice (some ⟨b4, 0, none⟩) n3 p4)) b 68 #[.int .i64 zi, .int .i64 zp, .slice A1 n1 p1, .slice A2 n2 p2, .slice (some ⟨b4, 0, none⟩) n3 p4]) := Lib.hid (B5.out.set_ 4 _)
            have O6 : Hid ((W5.setCell ⟨b, 4, none⟩ (.slice (some ⟨b4, 0, none⟩) n3 p4)).ownsRow 0 96 2 (.slice (some ⟨b4, 0, none⟩) n3 p4) n3 (rw pc (l.set q (name, old ++ s)))) := Lib.hid (own_far O5.out (own_blk_off O5.out B5.out (by decide)) _)
            have K6 : Hid (Keeps [] w1 (W5.setCell ⟨b, 4, none⟩ (.slice (some ⟨b4, 0, none⟩) n3 p4))) := Lib.hid (K5.out.setCell (.inr HBW.out) _)
            have F6 := F4
            clear x4 y4 B4 F4 O4 e5 z0 z1 z2 HL5
            go_upto_region 11 with fail
            obtain ⟨W6, hW6⟩ : ∃ W6, W5.setCell ⟨b, 4, none⟩ (.slice (some ⟨b4, 0, none⟩) n3 p4) = W6 := ⟨_, rfl⟩
            rw [hW6] at B6 O6 K6 ⊢
            clear hW6 B5 x5 y5 O5 K5 HW5
            have hlst := HLS.out
            have HLST := Lib.hid hlst
            clear hlst
            refine lo11_any W6 d b g n cap j n1 n2 n3 p1 p2 p4 A1 A2 (some ⟨b4, 0, none⟩) zi zp (rw (oc ms) C.reverse) _ ?_ ?_ hjn i2 i3 _ _ _ _ _ _ _ _ _ _ _ _ _ _ _ _ _ _ _ _ _ _ _ _ _ _ _ _ _ _ _ _ _ _ _ _ _ _ _ _ _ _ _ _ _ _ _ _ _ _ _ _ _ _ _ _ _ _ _ _ _ _ _ _ _ _ _ _ _ _ _ _ _ _ _ _ _ _ _ _ _ _ _ _ _ _ _ _ _ _ _ _ _ _ _ _ _ _ _ ?_
            · intro W' hk
              have b1 := B6.out.keep hk (by simp)
              exact ⟨((K6.out.trans hk (by simp)).cell (p := ⟨d, _, none⟩) hdl (by simp)).trans HF0.out, b1.cell 0, b1.cell 1, b1.cell 2, b1.cell 3, b1.cell 4⟩
            · intro W' hk
              exact own_keep HROW.out (K6.out.trans hk (by simp)) (by simp)
            intro v95 v96 v97 v98 v99 v100 v101 w7 W7 k7 o8 k8
            have K7 := Lib.hid k7
            have O8 := Lib.hid o8
            have K8 := Lib.hid k8
            clear k7 o8 k8
            go_wp2_with fail
            go_end0
            refine ⟨rfl, ?_⟩
            have kw7 : Keeps [] w1 w7 := K6.out.trans K7.out (by simp)
            have kg : Keeps [g] w1 W7 := (kw7.mono (by simp)).trans K8.out (by simp)
            have o7 : W7.ownsRow 0 96 2 (.slice (some ⟨b4, 0, none⟩) n3 p4) n3 _ := own_keep (own_keep O6.out K7.out (by simp)) K8.out (fun g' hg h' => by
              rw [List.mem_singleton.1 h'] at hg
              have h1 := F6.out g hg
              have h3 := HGL.out
              omega)
            rw [HLST.out.symm] at o7
            exact HEND.out W7 kg _ _ o7 F6.out O8.out
          · have hne : (y == name) = false := by simpa using hye
            have HNE : Hid (l[q].1 ≠ name) := Lib.hid (fun e => hye (hy.symm.trans e))
            obtain ⟨m, hm⟩ : ∃ m, n3 - q = m := ⟨_, rfl⟩
            obtain ⟨cB, hcB⟩ : ∃ cB, p3 - q = cB := ⟨_, rfl⟩
            rw [hm] at hs2 HR3
            rw [hcB] at hs2
            have hmm : m ≤ n3 := by omega
            clear hly hy HLT hql hye hcB hm hl4 hv hA
            subst hAA
            go_wp2_with (at_builtin; refine wpList_app _ rfl (.tmp 45) (.tmp 47) _ rfl 96 (.agg #[.string ⟨#[]⟩, .string ⟨#[]⟩]) 2 32 Tryz.underlying66 info96 rfl (by omega) (.slice (some ⟨wr.heap.size, 0, none⟩) 0 0) 0 [] rfl O0.out _ _ _ _ _ rfl (HRW.out _ KA.out) (rw_one pc_one _) (by unfold maxLen; omega) (by omega) ?_)
            intro v4 w4 o4 k4 f4
            obtain ⟨A4, p4, rfl, -, -, -⟩ := own_shape o4
            have O4 := Lib.hid o4
            have F4 : Hid (∀ g ∈ fp (.slice A4 n3 p4), w1.heap.size ≤ g) := Lib.hid (fun g hg => by
              have h0 := KB.out.size
              rcases f4 g hg with h2 | h2
              · have : g = wr.heap.size := by simpa [fp, Value.ownBlock] using h2
                omega
              · omega)
            have K4 : Hid (Keeps [] wr w4) := Lib.hid (KA.out.trans k4 (fun g hg => .inr (by have h1 : g = wr.heap.size := (by simpa [fp, Value.ownBlock] using hg); omega)))
            have B4 := Lib.hid (BA.out.keep k4 (fun h' => own_blk_off O0.out BA.out (by decide) h'))
            clear o4 k4 f4 O0 KA BA x2 xa
            have x4 : w4.cell? ⟨b, 4, none⟩ = some (.slice (some ⟨bl, 0, none⟩) n3 p3) := B4.out.cell 4
            have y4 : w4.frozen? ⟨b, 4, none⟩ = false := B4.out.frozen 4
            obtain ⟨b4, hb4, z0, -, -⟩ := HL4.out w4 A4 p4 O4.out
            subst hb4
            go_upto_region 9 with fail
            refine lo9_any w4 b n3 q p3 m cB (0 + q + 1 + m) (some ⟨bl, 0, none⟩) (some ⟨bl, 0 + q * 2, none⟩) name s (rw pc (l.take q)) (rw pc (l.drop q)) _ hq hn3 (by omega) rfl (fun W0 hk => (B4.out.keep hk (by simp)).cell 4) hs1 hs2 (fun W0 hk => HR1.out W0 (K4.out.trans hk (by simp))) (fun W0 hk => HR3.out W0 (K4.out.trans hk (by simp))) (rw_one pc_one _) (rw_one pc_one _) _ _ _ _ _ _ _ _ _ _ _ _ _ _ _ _ _ _ _ _ _ _ _ _ _ _ _ _ _ _ _ _ _ _ _ _ _ _ _ _ _ _ _ _ _ _ _ _ _ _ _ _ _ _ _ _ _ _ _ _ _ _ _ _ _ _ _ _ _ _ _ _ _ _ _ _ _ _ _ _ _ _ _ _ _ _ _ _ _ _ _ _ _ _ _ _ _ _ ?_
            intro v77 v78 v79 v80 v81 v82 v83 v84 v85 v86 v87 v88 v89 v90 v91 v92 v5 W5 o5 k5 f5
            obtain ⟨A5, p5, rfl, -, -, -⟩ := own_shape o5
            obtain ⟨n5, hn5⟩ : ∃ n5, 0 + q + 1 + m = n5 := ⟨_, rfl⟩
            rw [hn5] at o5 f5 ⊢
            have B5 := Lib.hid (B4.out.keep k5 (by simp))
            have x5 : W5.cell? ⟨b, 4, none⟩ = some (.slice (some ⟨bl, 0, none⟩) n3 p3) := B5.out.cell 4
            have y5 : W5.frozen? ⟨b, 4, none⟩ = false := B5.out.frozen 4
            have B6 : Hid (Blk (W5.setCell ⟨b, 4, none⟩ (.slice A5 n5 p5)) b 68 #[.int .i64 zi, .int .i64 zp, .slice A1 n1 p1, .slice A2 n2 p2, .slice A5 n5 p5]) := Lib.hid (B5.out.set_ 4 _)
            have O6 : Hid ((W5.setCell ⟨b, 4, none⟩ (.slice A5 n5 p5)).ownsRow 0 96 2 (.slice A5 n5 p5) n5 (rw pc (l.take q ++ (name, s) :: (l.drop q)))) := Lib.hid (by
              have e : rw pc (l.take q ++ (name, s) :: (l.drop q)) = [] ++ rw pc (l.take q) ++ [sv name, sv s] ++ rw pc (l.drop q) := by simp [rw_append, rw_cons, pc]
              rw [e]; exact own_far o5 (own_blk_off o5 B5.out (by decide)) _)
            have K6 : Hid (Keeps [] w1 (W5.setCell ⟨b, 4, none⟩ (.slice A5 n5 p5))) := Lib.hid ((KB.out.trans (K4.out.trans k5 (by simp)) (by simp)).setCell (.inr HBW.out) _)
            have F6 : Hid (∀ g ∈ fp (.slice A5 n5 p5), w1.heap.size ≤ g) := Lib.hid (fun g' hg => by have h1 := f5 g' hg; have h2 := KB.out.size; have h3 := K4.out.size; omega)
            clear z0 o5 k5 f5 hn5 x4 y4 B4 F4 O4
            go_upto_region 11 with fail
            obtain ⟨W6, hW6⟩ : ∃ W6, W5.setCell ⟨b, 4, none⟩ (.slice A5 n5 p5) = W6 := ⟨_, rfl⟩
            rw [hW6] at B6 O6 K6 ⊢
            clear hW6 B5 x5 y5
            have hlst := (show lgAdd name s l = l.take q ++ (name, s) :: (l.drop q) from by unfold lgAdd; rw [mget_ne HASC.out HSP.out (fun _ => HNE.out), mput_ne HSP.out _ (fun _ => HNE.out)]; rfl)
            have HLST := Lib.hid hlst
            clear hlst
            refine lo11_any W6 d b g n cap j n1 n2 n5 p1 p2 p5 A1 A2 A5 zi zp (rw (oc ms) C.reverse) _ ?_ ?_ hjn i2 i3 _ _ _ _ _ _ _ _ _ _ _ _ _ _ _ _ _ _ _ _ _ _ _ _ _ _ _ _ _ _ _ _ _ _ _ _ _ _ _ _ _ _ _ _ _ _ _ _ _ _ _ _ _ _ _ _ _ _ _ _ _ _ _ _ _ _ _ _ _ _ _ _ _ _ _ _ _ _ _ _ _ _ _ _ _ _ _ _ _ _ _ _ _ _ _ _ _ _ _ ?_
            · intro W' hk
              have b1 := B6.out.keep hk (by simp)
              exact ⟨((K6.out.trans hk (by simp)).cell (p := ⟨d, _, none⟩) hdl (by simp)).trans HF0.out, b1.cell 0, b1.cell 1, b1.cell 2, b1.cell 3, b1.cell 4⟩
            · intro W' hk
              exact own_keep HROW.out (K6.out.trans hk (by simp)) (by simp)
            intro v95 v96 v97 v98 v99 v100 v101 w7 W7 k7 o8 k8
            have K7 := Lib.hid k7
            have O8 := Lib.hid o8
            have K8 := Lib.hid k8
            clear k7 o8 k8
            go_wp2_with fail
            go_end0
            refine ⟨rfl, ?_⟩
            have kw7 : Keeps [] w1 w7 := K6.out.trans K7.out (by simp)
            have kg : Keeps [g] w1 W7 := (kw7.mono (by simp)).trans K8.out (by simp)
            have o7 : W7.ownsRow 0 96 2 (.slice A5 n5 p5) n5 _ := own_keep (own_keep O6.out K7.out (by simp)) K8.out (fun g' hg h' => by
              rw [List.mem_singleton.1 h'] at hg
              have h1 := F6.out g hg
              have h3 := HGL.out
              omega)
            rw [HLST.out.symm] at o7
            exact HEND.out W7 kg _ _ o7 F6.out O8.out
      · obtain rfl : q = n3 := by omega
        have j1 : ¬ ((q : Int) < (q : Int)) := by omega
        have hqq : q = l.length := HN3.out.symm
        have HSP : Hid (Spot l name q) := Lib.hid ⟨by omega, HLT.out, fun h => absurd h (by omega)⟩
        have hs2 := run_drop66 A3 q p3 q hq
        rw [Nat.sub_self] at hs2
        obtain ⟨B, hB⟩ : ∃ B, (if p3 = q then A3 else A3.map (·.add (q * 2))) = B := ⟨_, rfl⟩
        obtain ⟨cB, hcB⟩ : ∃ cB, p3 - q = cB := ⟨_, rfl⟩
        rw [hB, hcB] at hs2
        have HQQ := Lib.hid hqq
        have HR3 : Hid (∀ W0, Keeps [] wr W0 → Reads W0 W0.heap.size 2 B 0 (rw pc ([] : List (Str × Str)))) := Lib.hid (fun W0 hk => ⟨rfl, fun h => absurd h (by omega)⟩)
        clear hB hcB HLT hqq
        go_wp2_with (at_builtin; refine wpList_app _ rfl (.tmp 45) (.tmp 47) _ rfl 96 (.agg #[.string ⟨#[]⟩, .string ⟨#[]⟩]) 2 32 Tryz.underlying66 info96 rfl (by omega) (.slice (some ⟨wr.heap.size, 0, none⟩) 0 0) 0 [] rfl O0.out _ _ _ _ _ rfl (HRW.out _ KA.out) (rw_one pc_one _) (by unfold maxLen; omega) (by omega) ?_)
        intro v4 w4 o4 k4 f4
        obtain ⟨A4, p4, rfl, -, -, -⟩ := own_shape o4
        have O4 := Lib.hid o4
        have F4 : Hid (∀ g ∈ fp (.slice A4 q p4), w1.heap.size ≤ g) := Lib.hid (fun g hg => by
          have h0 := KB.out.size
          rcases f4 g hg with h2 | h2
          · have : g = wr.heap.size := by simpa [fp, Value.ownBlock] using h2
            omega
          · omega)
        have K4 : Hid (Keeps [] wr w4) := Lib.hid (KA.out.trans k4 (fun g hg => .inr (by have h1 : g = wr.heap.size := (by simpa [fp, Value.ownBlock] using hg); omega)))
        have B4 := Lib.hid (BA.out.keep k4 (fun h' => own_blk_off O0.out BA.out (by decide) h'))
        clear o4 k4 f4 O0 KA BA x2 xa
        have x4 : w4.cell? ⟨b, 4, none⟩ = some (.slice A3 q p3) := B4.out.cell 4
        have y4 : w4.frozen? ⟨b, 4, none⟩ = false := B4.out.frozen 4
        go_upto_region 9 with fail
        refine lo9_any w4 b q q p3 0 cB (0 + q + 1 + 0) A3 B name s (rw pc (l.take q)) (rw pc []) _ hq hn3 (by omega) rfl (fun W0 hk => (B4.out.keep hk (by simp)).cell 4) hs1 hs2 (fun W0 hk => HR1.out W0 (K4.out.trans hk (by simp))) (fun W0 hk => HR3.out W0 (K4.out.trans hk (by simp))) (rw_one pc_one _) (rw_one pc_one _) _ _ _ _ _ _ _ _ _ _ _ _ _ _ _ _ _ _ _ _ _ _ _ _ _ _ _ _ _ _ _ _ _ _ _ _ _ _ _ _ _ _ _ _ _ _ _ _ _ _ _ _ _ _ _ _ _ _ _ _ _ _ _ _ _ _ _ _ _ _ _ _ _ _ _ _ _ _ _ _ _ _ _ _ _ _ _ _ _ _ _ _ _ _ _ _ _ _ ?_
        intro v77 v78 v79 v80 v81 v82 v83 v84 v85 v86 v87 v88 v89 v90 v91 v92 v5 W5 o5 k5 f5
        obtain ⟨A5, p5, rfl, -, -, -⟩ := own_shape o5
        obtain ⟨n5, hn5⟩ : ∃ n5, 0 + q + 1 + 0 = n5 := ⟨_, rfl⟩
        rw [hn5] at o5 f5 ⊢
        have B5 := Lib.hid (B4.out.keep k5 (by simp))
        have x5 : W5.cell? ⟨b, 4, none⟩ = some (.slice A3 q p3) := B5.out.cell 4
        have y5 : W5.frozen? ⟨b, 4, none⟩ = false := B5.out.frozen 4
        have B6 : Hid (Blk (W5.setCell ⟨b, 4, none⟩ (.slice A5 n5 p5)) b 68 #[.int .i64 zi, .int .i64 zp, .slice A1 n1 p1, .slice A2 n2 p2, .slice A5 n5 p5]) := Lib.hid (B5.out.set_ 4 _)
        have O6 : Hid ((W5.setCell ⟨b, 4, none⟩ (.slice A5 n5 p5)).ownsRow 0 96 2 (.slice A5 n5 p5) n5 (rw pc (l.take q ++ (name, s) :: []))) := Lib.hid (by
          have e : rw pc (l.take q ++ (name, s) :: []) = [] ++ rw pc (l.take q) ++ [sv name, sv s] ++ rw pc [] := by simp [rw_append, rw_cons, pc]
          rw [e]; exact own_far o5 (own_blk_off o5 B5.out (by decide)) _)
        have K6 : Hid (Keeps [] w1 (W5.setCell ⟨b, 4, none⟩ (.slice A5 n5 p5))) := Lib.hid ((KB.out.trans (K4.out.trans k5 (by simp)) (by simp)).setCell (.inr HBW.out) _)
        have F6 : Hid (∀ g ∈ fp (.slice A5 n5 p5), w1.heap.size ≤ g) := Lib.hid (fun g' hg => by have h1 := f5 g' hg; have h2 := KB.out.size; have h3 := K4.out.size; omega)
        clear o5 k5 f5 hn5 x4 y4 B4 F4 O4
        go_upto_region 11 with fail
        obtain ⟨W6, hW6⟩ : ∃ W6, W5.setCell ⟨b, 4, none⟩ (.slice A5 n5 p5) = W6 := ⟨_, rfl⟩
        rw [hW6] at B6 O6 K6 ⊢
        clear hW6 B5 x5 y5
        have hlst := (show lgAdd name s l = l.take q ++ (name, s) :: [] from by unfold lgAdd; rw [mget_ne HASC.out HSP.out (fun h => absurd h (by have := HQQ.out; omega)), mput_ne HSP.out _ (fun h => absurd h (by have := HQQ.out; omega)), List.drop_of_length_le (by have := HQQ.out; omega)]; rfl)
        have HLST := Lib.hid hlst
        clear hlst
        refine lo11_any W6 d b g n cap j n1 n2 n5 p1 p2 p5 A1 A2 A5 zi zp (rw (oc ms) C.reverse) _ ?_ ?_ hjn i2 i3 _ _ _ _ _ _ _ _ _ _ _ _ _ _ _ _ _ _ _ _ _ _ _ _ _ _ _ _ _ _ _ _ _ _ _ _ _ _ _ _ _ _ _ _ _ _ _ _ _ _ _ _ _ _ _ _ _ _ _ _ _ _ _ _ _ _ _ _ _ _ _ _ _ _ _ _ _ _ _ _ _ _ _ _ _ _ _ _ _ _ _ _ _ _ _ _ _ _ _ ?_
        · intro W' hk
          have b1 := B6.out.keep hk (by simp)
          exact ⟨((K6.out.trans hk (by simp)).cell (p := ⟨d, _, none⟩) hdl (by simp)).trans HF0.out, b1.cell 0, b1.cell 1, b1.cell 2, b1.cell 3, b1.cell 4⟩
        · intro W' hk
          exact own_keep HROW.out (K6.out.trans hk (by simp)) (by simp)
        intro v95 v96 v97 v98 v99 v100 v101 w7 W7 k7 o8 k8
        have K7 := Lib.hid k7
        have O8 := Lib.hid o8
        have K8 := Lib.hid k8
        clear k7 o8 k8
        go_wp2_with fail
        go_end0
        refine ⟨rfl, ?_⟩
        have kw7 : Keeps [] w1 w7 := K6.out.trans K7.out (by simp)
        have kg : Keeps [g] w1 W7 := (kw7.mono (by simp)).trans K8.out (by simp)
        have o7 : W7.ownsRow 0 96 2 (.slice A5 n5 p5) n5 _ := own_keep (own_keep O6.out K7.out (by simp)) K8.out (fun g' hg h' => by
          rw [List.mem_singleton.1 h'] at hg
          have h1 := F6.out g hg
          have h3 := HGL.out
          omega)
        rw [HLST.out.symm] at o7
        exact HEND.out W7 kg _ _ o7 F6.out O8.out
end Go.Proofs.YtbllmpcpfmlemaaGreat
