/- The reference: drawn statements of note, Put, Log (printed by t7gen.py). -/
import Derived.Test.YtbllmpcpfmlemaaGreatT6
import Derived.Test.YtbllmpcpfmlemaaGreatSh
namespace Go.Proofs.YtbllmpcpfmlemaaGreat
open Go.RowKit
/-- Blocks told apart. -/
theorem off_new {S : List Nat} {n : Nat} (h : ∀ g ∈ S, g < n) : ∀ g ∈ S, g ∉ [n] := fun g hg h0 => by have := h g hg; rw [List.mem_singleton.1 h0] at this; omega
theorem off_app {v v2 : Value} {S : List Nat} {n : Nat} (f : ∀ g ∈ fp v2, g ∈ fp v ∨ n ≤ g) (d : ∀ g ∈ fp v, g ∉ S) (l : ∀ g ∈ S, g < n) : ∀ g ∈ fp v2, g ∉ S := fun g hg h0 => (f g hg).elim (fun h => d g h h0) (fun h => by have := l g h0; omega)
theorem off_symm {S T : List Nat} (h : ∀ g ∈ S, g ∉ T) : ∀ g ∈ T, g ∉ S := fun g hg h0 => h g h0 hg
theorem Blk.lts {w : World} {g : Nat} {t : TypeId} {cs : Array Value} (h : Blk w g t cs) : ∀ x ∈ [g], x < w.heap.size := fun x hx => by rw [List.mem_singleton.1 hx]; exact h.lt
theorem own_lts {w : World} {e size n : Nat} {v : Value} {xs : List Value} (h : w.ownsRow 0 e size v n xs) : ∀ x ∈ fp v, x < w.heap.size := fun _ hx => own_lt h hx
theorem ges_app {v v2 : Value} {m n : Nat} (f : ∀ g ∈ fp v2, g ∈ fp v ∨ n ≤ g) (h : ∀ g ∈ fp v, m ≤ g) (hm : m ≤ n) : ∀ g ∈ fp v2, m ≤ g := fun g hg => (f g hg).elim (h g) (fun h' => Nat.le_trans hm h')
/-- A whole row stored into the midst of a row of one's own, as one step of a drawn region. -/
theorem splice_take {cs vs : List Value} {k m : Nat} (h : k + vs.length ≤ m) : (splice cs k vs).take m = splice (cs.take m) k vs := by
  by_cases hm : m ≤ cs.length
  · unfold splice
    apply List.ext_getElem
    · simp; omega
    · intro i h1 h2
      simp [List.getElem_append] at h1 h2 ⊢
      repeat' split
      all_goals first | rfl | omega | (congr 1; omega) | (exfalso; omega)
  · rw [List.take_of_length_le (l := cs) (by omega), List.take_of_length_le]
    simp [splice]
    omega
theorem step_store_own {P : Program} {ops : Array Oper} {o : Oper} {a : Act} {w : World} {K : Act → World → Prop} {Q : Exit → Act → World → Prop} {E : Prop} (hgd : o.guard = none) (ty : TypeId) (x y : Operand) (ho : o.op = .store ty x y)
    (g off n cap : Nat) (t : TypeId) (size : Nat) (xs : List Value) (hx : a.eval x = .pointer (some ⟨g, off, none⟩)) (hown : w.ownsRow 0 t size (.slice (some ⟨g, 0, none⟩) n cap) n xs) (cs : Array Value) (hy : a.eval y = .agg cs) (hof : off + cs.size ≤ n * size) (h1 : ∀ v ∈ cs.toList, v.oneCell' = true)
    (hi : (P.info? ty).map (·.size) = some cs.size)
    (h : ∀ w', w'.ownsRow 0 t size (.slice (some ⟨g, 0, none⟩) n cap) n (splice xs off cs.toList) → Keeps [g] w w' → K (a.put o.dst undef) w') : if Region.wanted o (yielded ops a.tmps) = true then Oper.wp P o a w K Q else E := by
  have hw : Region.wanted o (yielded ops a.tmps) = true := by simp [Region.wanted, hgd]
  rw [if_pos hw]
  obtain ⟨old, hb, hnc, hcm, hsz0, htk⟩ := own_blk hown
  have hle : n * size ≤ cap * size := Nat.mul_le_mul_right size hnc
  cases hq : P.info? ty with
  | none => simp [hq] at hi
  | some i =>
    have hsz : i.size = cs.size := by simpa [hq] using hi
    have hst := run_storeCells_at P g off t cs.toList 0 old w hb (by simp; omega) h1
    have e : (old.toList.take (off + 0) ++ cs.toList ++ old.toList.drop (off + 0 + cs.toList.length)) = splice old.toList off cs.toList := by simp [splice]
    rw [e] at hst
    have hsv : (storeVar ty ⟨g, off, none⟩ (.agg cs)).run P w = .ok () (w.setRow g (splice old.toList off cs.toList).toArray) := by
      simp [storeVar, sizeOf, typeInfo, hq, hsz, Value.cells, hst]
    unfold Oper.wp execOp
    simp only [ho, hx, hy, Instr.storeAt, Instr.sureAddr, Sem.run_bind, Sem.run_pure, Result.andThen_ok, hsv]
    have hb' : Blk (w.setRow g (splice old.toList off cs.toList).toArray) g t (splice old.toList off cs.toList).toArray := setRow_heap w g old _ t _ hb
    have hlen : (splice old.toList off cs.toList).length = old.toList.length := splice_len (by simp; omega)
    have := h _ (own_of_blk hb' hnc hcm (by simp [hlen, hsz0]) (by rw [List.toList_toArray, splice_take (by simpa using hof), htk])) ⟨rfl, rfl, rfl, by simp [World.setRow], fun k _ hk => setRow_other w g k _ (by simpa using hk)⟩
    simp only [Oper.upon]
    exact this
theorem info68s : (Tryz.prog.info? 68).map (·.size) = some 5 := by kernel_rfl
noncomputable def nt2C : Code := ((Tryz.f86.body.bind (theRegion 2)).getD .skip)
set_option maxRecDepth 1000000 in
set_option maxHeartbeats 1600000 in
set_option linter.unusedSimpArgs false in
theorem nt2_any (w : World) (p q n c N3 n4 p4 : Nat) (A A4 : Option Addr) (xs1 : List Value) (kd : Int) (ky vl : Str) (K : Exit → Act → World → Prop) (hn : n ≤ 2000000) (hN3 : 0 + n + 1 = N3)
    (hS : ∀ W, Keeps [] w W → W.cell? ⟨p, 3, none⟩ = some (.slice A n c) ∧ W.cell? ⟨q, 0, none⟩ = some (.int .i64 kd) ∧ W.cell? ⟨q, 1, none⟩ = some (sv ky) ∧ W.cell? ⟨q, 2, none⟩ = some (sv vl) ∧ W.cell? ⟨q, 3, none⟩ = some (.slice A4 n4 p4)) (hF : ∀ W, Keeps [] w W → W.frozen? ⟨p, 3, none⟩ = false)
    (hr1 : ∀ W, Keeps [] w W → Reads W W.heap.size 4 A n xs1) (h1 : ∀ u ∈ xs1, u.oneCell' = true)
    (u0 u1 u2 u3 u4 u7 u8 u9 u10 u11 u12 u13 u14 u15 u16 u17 u18 u19 u20 u21 u22 u23 u24 u25 u26 u27 u28 : Value)
    (hK : ∀ (v14 v15 v16 v17 v18 v19 v20 v21 : Value) (v3 : Value) (W : World), W.ownsRow 0 34 4 v3 N3 ([] ++ xs1 ++ [.int .i64 kd, sv ky, sv vl, .slice A4 n4 p4]) → Keeps [] w W → (∀ g ∈ fp v3, w.heap.size ≤ g) → K .normal ⟨#[u0, u1, u2, u3, u4, .pointer (some ⟨q, 0, none⟩), .pointer (some ⟨p, 0, none⟩), u7, u8, u9, u10, u11, u12, u13, v14, v15, v16, v17, v18, v19, v20, v21, u22, u23, u24, u25, u26, u27, u28], []⟩ (W.setCell ⟨p, 3, none⟩ v3)) :
    Code.wp Tryz.prog nt2C K ⟨#[u0, u1, u2, u3, u4, .pointer (some ⟨q, 0, none⟩), .pointer (some ⟨p, 0, none⟩), u7, u8, u9, u10, u11, u12, u13, u14, u15, u16, u17, u18, u19, u20, u21, u22, u23, u24, u25, u26, u27, u28], []⟩ w := by
  have HS := Lib.hid hS
  have HF := Lib.hid hF
  have HR1 := Lib.hid hr1
  have H1 := Lib.hid h1
  have HN3 := Lib.hid hN3
  clear hS hF hr1 h1 hN3
  conv => arg 2; whnf
  try dsimp only at hK ⊢
  refine wp_region_noPanic ?_
  refine wp_region_last (S := fun W => W.cell? ⟨p, 3, none⟩ = some (.slice A n c) ∧ W.cell? ⟨q, 0, none⟩ = some (.int .i64 kd) ∧ W.cell? ⟨q, 1, none⟩ = some (sv ky) ∧ W.cell? ⟨q, 2, none⟩ = some (sv vl) ∧ W.cell? ⟨q, 3, none⟩ = some (.slice A4 n4 p4)) 8 (by kernel_rfl) (HS.out _ ((Keeps.refl [] w).drew)) (fun hHeld => ?_)
  obtain ⟨w0, hw0⟩ : ∃ w0, w.drew = w0 := ⟨_, rfl⟩
  try rw [hw0] at hHeld
  rw [hw0]
  have K0 : Keeps [] w w0 := by rw [← hw0]; exact (Keeps.refl [] w).drew
  clear hw0
  refine wpG_take (nx := [3, 2, 3, 6, 5, 6, 7, 8]) (i := 1) (oi := ⟨some 15, .fieldAddr 68 (.tmp 6) 3, 0, _, _, none⟩) (v := ?vq1) (by kernel_rfl) rfl (by decide) (by kernel_rfl) (by kernel_rfl) (by kernel_rfl) (fun _ _ _ h => h) (Or.inl ⟨by rfl, fun W hW => ?_⟩) (by assumption) ?_
  rotate_left
  · go_simp
    with_reducible rfl
  try simp only [Act.put, lA, l0, lS]
  refine wpG_take (nx := [3, 2, 3, 6, 5, 6, 7, 8]) (i := 2) (oi := ⟨some 16, .load 50 (.tmp 15), 50, _, _, none⟩) (v := .slice A n c) (by kernel_rfl) rfl (by decide) (by kernel_rfl) (by kernel_rfl) (by kernel_rfl) (fun _ _ _ h => h) (Or.inl ⟨by rfl, fun W hW => ?_⟩) (by assumption) ?_
  · (obtain ⟨a0, a1, a2, a3, a4⟩ := hW; go_simp)
  try simp only [Act.put, lA, l0, lS]
  refine wpG_take (nx := [3, 2, 3, 6, 5, 6, 7, 8]) (i := 4) (oi := ⟨some 18, .load 34 (.tmp 5), 34, _, _, none⟩) (v := .agg #[.int .i64 kd, sv ky, sv vl, .slice A4 n4 p4]) (by kernel_rfl) rfl (by decide) (by kernel_rfl) (by kernel_rfl) (by kernel_rfl) (fun _ _ _ h => h) (Or.inl ⟨by rfl, fun W hW => ?_⟩) (by assumption) ?_
  · (obtain ⟨a0, a1, a2, a3, a4⟩ := hW; go_simp)
  try simp only [Act.put, lA, l0, lS]
  refine wpG_ready (rs := [0, 5]) (by kernel_rfl) (by simp) ?_
  refine AllG.cons (o := ⟨some 14, .buildSlice 50 0 #[], 50, _, _, none⟩) rfl (fun KK hKK => ?_) (AllG.cons (o := ⟨some 19, .buildSlice 50 1 #[(0, .tmp 18)], 50, _, _, none⟩) rfl (fun KK hKK => ?_) AllG.nil)
  · go_simp
    obtain ⟨b3, f7⟩ : ∃ b, w0.heap.size = b := ⟨_, rfl⟩
    rw [f7]
    obtain ⟨W2, e6⟩ : ∃ W, World.alloc w0 (.cells #[] 34) = W := ⟨_, rfl⟩
    rw [e6]
    have kk4 : Keeps [] w0 W2 := by rw [← e6]; exact (Keeps.refl [] _).alloc _
    have K5 : Keeps [] w W2 := K0.trans kk4 (by simp)
    have ob8 : W2.ownsRow 0 34 4 (.slice (some ⟨b3, 0, none⟩) 0 0) 0 ([] : List Value) := by rw [← e6, ← f7]; exact own_of_blk (Blk.new _ 34 #[]) (by omega) (by omega) rfl rfl
    have ge9 : ∀ g ∈ fp (.slice (some ⟨b3, 0, none⟩) 0 0), w.heap.size ≤ g := by have := K0.size; intro g hg; have h0 : g = b3 := (by simpa [fp, Value.ownBlock] using hg); omega
    refine hKK.out _ _ (HS.out _ K5) (fun hHeld => ?_)
    clear hKK KK e6 f7
    try simp only [Act.put, lA, l0, lS]
    refine wpG_ready (rs := [3, 5]) (by kernel_rfl) (by simp) ?_
    refine AllG.cons (o := ⟨some 17, .call { callee := .builtin .append, args := #[.tmp 14, .tmp 16], argTypes := #[50, 50] }, 50, _, _, none⟩) rfl (fun KK hKK => ?_) (AllG.cons (o := ⟨some 19, .buildSlice 50 1 #[(0, .tmp 18)], 50, _, _, none⟩) rfl (fun KK hKK => ?_) AllG.nil)
    · refine step_app (by rfl) (.tmp 14) (.tmp 16) 50 (by rfl) 34 zv32 4 64 Tryz.underlying50 info34 rfl (by omega) (.slice (some ⟨b3, 0, none⟩) 0 0) 0 (([] : List Value)) ?_ ob8 _ A n c (xs1) ?_ (HR1.out _ K5) H1.out (by unfold maxLen; omega) (by omega) (fun v11 W10 ob12 kk13 f14 => ?_)
      · first | (simp [Act.eval]; done) | (simp [Act.eval, Act.put]; done)
      · first | (simp [Act.eval]; done) | (simp [Act.eval, Act.put]; done)
      have K15 : Keeps [] w W10 := K5.trans kk13 (fun g hg => .inr (ge9 g hg))
      have ge16 : ∀ g ∈ fp v11, w.heap.size ≤ g := ges_app f14 ge9 K5.size
      refine hKK.out _ _ (HS.out _ K15) (fun hHeld => ?_)
      clear hKK KK
      try simp only [Act.put, lA, l0, lS]
      refine wpG_ready (rs := [5]) (by kernel_rfl) (by simp) ?_
      refine AllG.cons (o := ⟨some 19, .buildSlice 50 1 #[(0, .tmp 18)], 50, _, _, none⟩) rfl (fun KK hKK => ?_) AllG.nil
      go_simp
      obtain ⟨b18, f22⟩ : ∃ b, W10.heap.size = b := ⟨_, rfl⟩
      rw [f22]
      obtain ⟨W17, e21⟩ : ∃ W, World.alloc W10 (.cells #[.int .i64 kd, sv ky, sv vl, .slice A4 n4 p4] 34) = W := ⟨_, rfl⟩
      rw [e21]
      have kk19 : Keeps [] W10 W17 := by rw [← e21]; exact (Keeps.refl [] _).alloc _
      have K20 : Keeps [] w W17 := K15.trans kk19 (by simp)
      have d25 : ∀ g ∈ fp v11, g ∉ [b18] := by rw [← f22]; exact off_new (own_lts ob12)
      have ob26 := own_keep ob12 kk19 (by simp)
      have ob23 : Blk W17 b18 34 #[.int .i64 kd, sv ky, sv vl, .slice A4 n4 p4] := by rw [← e21, ← f22]; exact Blk.new _ _ _
      have ge24 : ∀ g ∈ [b18], w.heap.size ≤ g := by have := K15.size; intro g hg; rw [List.mem_singleton.1 hg]; omega
      refine hKK.out _ _ (HS.out _ K20) (fun hHeld => ?_)
      clear hKK KK e21 f22
      try simp only [Act.put, lA, l0, lS]
      refine wpG_ready (rs := [6]) (by kernel_rfl) (by simp) ?_
      refine AllG.cons (o := ⟨some 20, .call { callee := .builtin .append, args := #[.tmp 17, .tmp 19], argTypes := #[50, 50] }, 50, _, _, none⟩) rfl (fun KK hKK => ?_) AllG.nil
      refine step_app (by rfl) (.tmp 17) (.tmp 19) 50 (by rfl) 34 zv32 4 64 Tryz.underlying50 info34 rfl (by omega) v11 (0 + n) ([] ++ xs1) ?_ ob26 _ (some ⟨b18, 0, none⟩) 1 1 ([.int .i64 kd, sv ky, sv vl, .slice A4 n4 p4]) ?_ (reads_blk ob23 rfl rfl) (by simp [Value.oneCell']) (by unfold maxLen; omega) (by omega) (fun v28 W27 ob29 kk30 f31 => ?_)
      · first | (simp [Act.eval]; done) | (simp [Act.eval, Act.put]; done)
      · first | (simp [Act.eval]; done) | (simp [Act.eval, Act.put]; done)
      have K32 : Keeps [] w W27 := K20.trans kk30 (fun g hg => .inr (ge16 g hg))
      have ge33 : ∀ g ∈ fp v28, w.heap.size ≤ g := ges_app f31 ge16 K20.size
      have d34 : ∀ g ∈ fp v28, g ∉ [b18] := off_app f31 d25 ob23.lts
      have ob35 := ob23.keep kk30 (fun h0 => d25 _ h0 (by simp))
      rw [HN3.out] at ob29
      obtain ⟨A36, c37, rfl, -, -, -⟩ := own_shape ob29
      refine hKK.out _ _ (HS.out _ K32) (fun hHeld => ?_)
      clear hKK KK
      try simp only [Act.put, lA, l0, lS]
      refine wpG_take (nx := [3, 2, 3, 6, 5, 6, 7, 8]) (i := 7) (oi := ⟨some 21, .fieldAddr 68 (.tmp 6) 3, 0, _, _, none⟩) (v := ?vq38) (by kernel_rfl) rfl (by decide) (by kernel_rfl) (by kernel_rfl) (by kernel_rfl) (fun _ _ _ h => h) (Or.inl ⟨by rfl, fun W hW => ?_⟩) (by assumption) ?_
      rotate_left
      · go_simp
        with_reducible rfl
      try simp only [Act.put, lA, l0, lS]
      refine wpG_ready (rs := [8]) (by kernel_rfl) (by simp) ?_
      refine AllG.last (o := ⟨none, .store 50 (.tmp 21) (.tmp 20), 0, _, _, none⟩) rfl (fun KK hKK => ?_)
      have hc0 := (HS.out _ K32).1
      have hf0 := HF.out _ K32
      go_simp
      refine hKK.out _ _ ?_
      clear hKK KK hHeld
      try simp only [Act.put, lA, l0, lS]
      refine wpG_done (by kernel_rfl) ?_ _
      refine NoPanic.normal ?_
      exact hK _ _ _ _ _ _ _ _ (.slice A36 N3 c37) W27 ob29 K32 ge33
    · go_simp
      obtain ⟨b40, f44⟩ : ∃ b, W2.heap.size = b := ⟨_, rfl⟩
      rw [f44]
      obtain ⟨W39, e43⟩ : ∃ W, World.alloc W2 (.cells #[.int .i64 kd, sv ky, sv vl, .slice A4 n4 p4] 34) = W := ⟨_, rfl⟩
      rw [e43]
      have kk41 : Keeps [] W2 W39 := by rw [← e43]; exact (Keeps.refl [] _).alloc _
      have K42 : Keeps [] w W39 := K5.trans kk41 (by simp)
      have d47 : ∀ g ∈ fp (.slice (some ⟨b3, 0, none⟩) 0 0), g ∉ [b40] := by rw [← f44]; exact off_new (own_lts ob8)
      have ob48 := own_keep ob8 kk41 (by simp)
      have ob45 : Blk W39 b40 34 #[.int .i64 kd, sv ky, sv vl, .slice A4 n4 p4] := by rw [← e43, ← f44]; exact Blk.new _ _ _
      have ge46 : ∀ g ∈ [b40], w.heap.size ≤ g := by have := K5.size; intro g hg; rw [List.mem_singleton.1 hg]; omega
      refine hKK.out _ _ (HS.out _ K42) (fun hHeld => ?_)
      clear hKK KK e43 f44
      try simp only [Act.put, lA, l0, lS]
      refine wpG_ready (rs := [3]) (by kernel_rfl) (by simp) ?_
      refine AllG.cons (o := ⟨some 17, .call { callee := .builtin .append, args := #[.tmp 14, .tmp 16], argTypes := #[50, 50] }, 50, _, _, none⟩) rfl (fun KK hKK => ?_) AllG.nil
      refine step_app (by rfl) (.tmp 14) (.tmp 16) 50 (by rfl) 34 zv32 4 64 Tryz.underlying50 info34 rfl (by omega) (.slice (some ⟨b3, 0, none⟩) 0 0) 0 (([] : List Value)) ?_ ob48 _ A n c (xs1) ?_ (HR1.out _ K42) H1.out (by unfold maxLen; omega) (by omega) (fun v50 W49 ob51 kk52 f53 => ?_)
      · first | (simp [Act.eval]; done) | (simp [Act.eval, Act.put]; done)
      · first | (simp [Act.eval]; done) | (simp [Act.eval, Act.put]; done)
      have K54 : Keeps [] w W49 := K42.trans kk52 (fun g hg => .inr (ge9 g hg))
      have ge55 : ∀ g ∈ fp v50, w.heap.size ≤ g := ges_app f53 ge9 K42.size
      have d56 : ∀ g ∈ fp v50, g ∉ [b40] := off_app f53 d47 ob45.lts
      have ob57 := ob45.keep kk52 (fun h0 => d47 _ h0 (by simp))
      refine hKK.out _ _ (HS.out _ K54) (fun hHeld => ?_)
      clear hKK KK
      try simp only [Act.put, lA, l0, lS]
      refine wpG_ready (rs := [6]) (by kernel_rfl) (by simp) ?_
      refine AllG.cons (o := ⟨some 20, .call { callee := .builtin .append, args := #[.tmp 17, .tmp 19], argTypes := #[50, 50] }, 50, _, _, none⟩) rfl (fun KK hKK => ?_) AllG.nil
      refine step_app (by rfl) (.tmp 17) (.tmp 19) 50 (by rfl) 34 zv32 4 64 Tryz.underlying50 info34 rfl (by omega) v50 (0 + n) ([] ++ xs1) ?_ ob51 _ (some ⟨b40, 0, none⟩) 1 1 ([.int .i64 kd, sv ky, sv vl, .slice A4 n4 p4]) ?_ (reads_blk ob57 rfl rfl) (by simp [Value.oneCell']) (by unfold maxLen; omega) (by omega) (fun v59 W58 ob60 kk61 f62 => ?_)
      · first | (simp [Act.eval]; done) | (simp [Act.eval, Act.put]; done)
      · first | (simp [Act.eval]; done) | (simp [Act.eval, Act.put]; done)
      have K63 : Keeps [] w W58 := K54.trans kk61 (fun g hg => .inr (ge55 g hg))
      have ge64 : ∀ g ∈ fp v59, w.heap.size ≤ g := ges_app f62 ge55 K54.size
      have d65 : ∀ g ∈ fp v59, g ∉ [b40] := off_app f62 d56 ob57.lts
      have ob66 := ob57.keep kk61 (fun h0 => d56 _ h0 (by simp))
      rw [HN3.out] at ob60
      obtain ⟨A67, c68, rfl, -, -, -⟩ := own_shape ob60
      refine hKK.out _ _ (HS.out _ K63) (fun hHeld => ?_)
      clear hKK KK
      try simp only [Act.put, lA, l0, lS]
      refine wpG_take (nx := [3, 2, 3, 6, 5, 6, 7, 8]) (i := 7) (oi := ⟨some 21, .fieldAddr 68 (.tmp 6) 3, 0, _, _, none⟩) (v := ?vq69) (by kernel_rfl) rfl (by decide) (by kernel_rfl) (by kernel_rfl) (by kernel_rfl) (fun _ _ _ h => h) (Or.inl ⟨by rfl, fun W hW => ?_⟩) (by assumption) ?_
      rotate_left
      · go_simp
        with_reducible rfl
      try simp only [Act.put, lA, l0, lS]
      refine wpG_ready (rs := [8]) (by kernel_rfl) (by simp) ?_
      refine AllG.last (o := ⟨none, .store 50 (.tmp 21) (.tmp 20), 0, _, _, none⟩) rfl (fun KK hKK => ?_)
      have hc0 := (HS.out _ K63).1
      have hf0 := HF.out _ K63
      go_simp
      refine hKK.out _ _ ?_
      clear hKK KK hHeld
      try simp only [Act.put, lA, l0, lS]
      refine wpG_done (by kernel_rfl) ?_ _
      refine NoPanic.normal ?_
      exact hK _ _ _ _ _ _ _ _ (.slice A67 N3 c68) W58 ob60 K63 ge64
  · go_simp
    obtain ⟨b71, f75⟩ : ∃ b, w0.heap.size = b := ⟨_, rfl⟩
    rw [f75]
    obtain ⟨W70, e74⟩ : ∃ W, World.alloc w0 (.cells #[.int .i64 kd, sv ky, sv vl, .slice A4 n4 p4] 34) = W := ⟨_, rfl⟩
    rw [e74]
    have kk72 : Keeps [] w0 W70 := by rw [← e74]; exact (Keeps.refl [] _).alloc _
    have K73 : Keeps [] w W70 := K0.trans kk72 (by simp)
    have ob76 : Blk W70 b71 34 #[.int .i64 kd, sv ky, sv vl, .slice A4 n4 p4] := by rw [← e74, ← f75]; exact Blk.new _ _ _
    have ge77 : ∀ g ∈ [b71], w.heap.size ≤ g := by have := K0.size; intro g hg; rw [List.mem_singleton.1 hg]; omega
    refine hKK.out _ _ (HS.out _ K73) (fun hHeld => ?_)
    clear hKK KK e74 f75
    try simp only [Act.put, lA, l0, lS]
    refine wpG_ready (rs := [0]) (by kernel_rfl) (by simp) ?_
    refine AllG.cons (o := ⟨some 14, .buildSlice 50 0 #[], 50, _, _, none⟩) rfl (fun KK hKK => ?_) AllG.nil
    go_simp
    obtain ⟨b79, f83⟩ : ∃ b, W70.heap.size = b := ⟨_, rfl⟩
    rw [f83]
    obtain ⟨W78, e82⟩ : ∃ W, World.alloc W70 (.cells #[] 34) = W := ⟨_, rfl⟩
    rw [e82]
    have kk80 : Keeps [] W70 W78 := by rw [← e82]; exact (Keeps.refl [] _).alloc _
    have K81 : Keeps [] w W78 := K73.trans kk80 (by simp)
    have d86 : ∀ g ∈ [b71], g ∉ [b79] := by rw [← f83]; exact off_new ob76.lts
    have ob87 := ob76.keep kk80 (by simp)
    have ob84 : W78.ownsRow 0 34 4 (.slice (some ⟨b79, 0, none⟩) 0 0) 0 ([] : List Value) := by rw [← e82, ← f83]; exact own_of_blk (Blk.new _ 34 #[]) (by omega) (by omega) rfl rfl
    have ge85 : ∀ g ∈ fp (.slice (some ⟨b79, 0, none⟩) 0 0), w.heap.size ≤ g := by have := K73.size; intro g hg; have h0 : g = b79 := (by simpa [fp, Value.ownBlock] using hg); omega
    refine hKK.out _ _ (HS.out _ K81) (fun hHeld => ?_)
    clear hKK KK e82 f83
    try simp only [Act.put, lA, l0, lS]
    refine wpG_ready (rs := [3]) (by kernel_rfl) (by simp) ?_
    refine AllG.cons (o := ⟨some 17, .call { callee := .builtin .append, args := #[.tmp 14, .tmp 16], argTypes := #[50, 50] }, 50, _, _, none⟩) rfl (fun KK hKK => ?_) AllG.nil
    refine step_app (by rfl) (.tmp 14) (.tmp 16) 50 (by rfl) 34 zv32 4 64 Tryz.underlying50 info34 rfl (by omega) (.slice (some ⟨b79, 0, none⟩) 0 0) 0 (([] : List Value)) ?_ ob84 _ A n c (xs1) ?_ (HR1.out _ K81) H1.out (by unfold maxLen; omega) (by omega) (fun v89 W88 ob90 kk91 f92 => ?_)
    · first | (simp [Act.eval]; done) | (simp [Act.eval, Act.put]; done)
    · first | (simp [Act.eval]; done) | (simp [Act.eval, Act.put]; done)
    have K93 : Keeps [] w W88 := K81.trans kk91 (fun g hg => .inr (ge85 g hg))
    have ge94 : ∀ g ∈ fp v89, w.heap.size ≤ g := ges_app f92 ge85 K81.size
    have d95 : ∀ g ∈ fp v89, g ∉ [b71] := off_app f92 (off_symm d86) ob87.lts
    have ob96 := ob87.keep kk91 (fun h0 => (off_symm d86) _ h0 (by simp))
    refine hKK.out _ _ (HS.out _ K93) (fun hHeld => ?_)
    clear hKK KK
    try simp only [Act.put, lA, l0, lS]
    refine wpG_ready (rs := [6]) (by kernel_rfl) (by simp) ?_
    refine AllG.cons (o := ⟨some 20, .call { callee := .builtin .append, args := #[.tmp 17, .tmp 19], argTypes := #[50, 50] }, 50, _, _, none⟩) rfl (fun KK hKK => ?_) AllG.nil
    refine step_app (by rfl) (.tmp 17) (.tmp 19) 50 (by rfl) 34 zv32 4 64 Tryz.underlying50 info34 rfl (by omega) v89 (0 + n) ([] ++ xs1) ?_ ob90 _ (some ⟨b71, 0, none⟩) 1 1 ([.int .i64 kd, sv ky, sv vl, .slice A4 n4 p4]) ?_ (reads_blk ob96 rfl rfl) (by simp [Value.oneCell']) (by unfold maxLen; omega) (by omega) (fun v98 W97 ob99 kk100 f101 => ?_)
    · first | (simp [Act.eval]; done) | (simp [Act.eval, Act.put]; done)
    · first | (simp [Act.eval]; done) | (simp [Act.eval, Act.put]; done)
    have K102 : Keeps [] w W97 := K93.trans kk100 (fun g hg => .inr (ge94 g hg))
    have ge103 : ∀ g ∈ fp v98, w.heap.size ≤ g := ges_app f101 ge94 K93.size
    have d104 : ∀ g ∈ fp v98, g ∉ [b71] := off_app f101 d95 ob96.lts
    have ob105 := ob96.keep kk100 (fun h0 => d95 _ h0 (by simp))
    rw [HN3.out] at ob99
    obtain ⟨A106, c107, rfl, -, -, -⟩ := own_shape ob99
    refine hKK.out _ _ (HS.out _ K102) (fun hHeld => ?_)
    clear hKK KK
    try simp only [Act.put, lA, l0, lS]
    refine wpG_take (nx := [3, 2, 3, 6, 5, 6, 7, 8]) (i := 7) (oi := ⟨some 21, .fieldAddr 68 (.tmp 6) 3, 0, _, _, none⟩) (v := ?vq108) (by kernel_rfl) rfl (by decide) (by kernel_rfl) (by kernel_rfl) (by kernel_rfl) (fun _ _ _ h => h) (Or.inl ⟨by rfl, fun W hW => ?_⟩) (by assumption) ?_
    rotate_left
    · go_simp
      with_reducible rfl
    try simp only [Act.put, lA, l0, lS]
    refine wpG_ready (rs := [8]) (by kernel_rfl) (by simp) ?_
    refine AllG.last (o := ⟨none, .store 50 (.tmp 21) (.tmp 20), 0, _, _, none⟩) rfl (fun KK hKK => ?_)
    have hc0 := (HS.out _ K102).1
    have hf0 := HF.out _ K102
    go_simp
    refine hKK.out _ _ ?_
    clear hKK KK hHeld
    try simp only [Act.put, lA, l0, lS]
    refine wpG_done (by kernel_rfl) ?_ _
    refine NoPanic.normal ?_
    exact hK _ _ _ _ _ _ _ _ (.slice A106 N3 c107) W97 ob99 K102 ge103
noncomputable def nt3C : Code := ((Tryz.f86.body.bind (theRegion 3)).getD .skip)
set_option maxRecDepth 1000000 in
set_option maxHeartbeats 1600000 in
set_option linter.unusedSimpArgs false in
theorem nt3_any (w : World) (d b g n cap k n1 n2 n3 p1 p2 p3 : Nat) (A1 A2 A3 : Option Addr) (zi zp : Int) (xs : List Value) (K : Exit → Act → World → Prop)
    (hS : ∀ W, Keeps [] w W → W.cell? ⟨d, 0, none⟩ = some (.slice (some ⟨g, 0, none⟩) n cap) ∧ W.cell? ⟨b, 0, none⟩ = some (.int .i64 zi) ∧ W.cell? ⟨b, 1, none⟩ = some (.int .i64 zp) ∧ W.cell? ⟨b, 2, none⟩ = some (.slice A1 n1 p1) ∧ W.cell? ⟨b, 3, none⟩ = some (.slice A2 n2 p2) ∧ W.cell? ⟨b, 4, none⟩ = some (.slice A3 n3 p3))
    (hO : ∀ W, Keeps [] w W → W.ownsRow 0 68 5 (.slice (some ⟨g, 0, none⟩) n cap) n xs) (hkn : k < n) (i0 : (0 : Int) ≤ (k : Int)) (i1 : (k : Int) < (n : Int))
    (u2 u3 u4 u5 u7 u8 u9 u10 u11 u12 u13 u14 u15 u16 u17 u18 u19 u20 u21 u22 u23 u24 u25 u26 u27 u28 : Value)
    (hK : ∀ (v22 v23 v24 v25 v26 v27 v28 : Value) (w0 : World) {W : World}, Keeps [] w w0 → W.ownsRow 0 68 5 (.slice (some ⟨g, 0, none⟩) n cap) n (splice xs (k * 5) [.int .i64 zi, .int .i64 zp, .slice A1 n1 p1, .slice A2 n2 p2, .slice A3 n3 p3]) → Keeps [g] w0 W → K .normal ⟨#[.pointer (some ⟨d, 0, none⟩), .int .i64 (k : Nat), u2, u3, u4, u5, .pointer (some ⟨b, 0, none⟩), u7, u8, u9, u10, u11, u12, u13, u14, u15, u16, u17, u18, u19, u20, u21, v22, v23, v24, v25, v26, v27, v28], []⟩ W) :
    Code.wp Tryz.prog nt3C K ⟨#[.pointer (some ⟨d, 0, none⟩), .int .i64 (k : Nat), u2, u3, u4, u5, .pointer (some ⟨b, 0, none⟩), u7, u8, u9, u10, u11, u12, u13, u14, u15, u16, u17, u18, u19, u20, u21, u22, u23, u24, u25, u26, u27, u28], []⟩ w := by
  have HS := Lib.hid hS
  have HO := Lib.hid hO
  have HKN := Lib.hid hkn
  clear hS hO
  conv => arg 2; whnf
  try dsimp only at hK ⊢
  refine wp_region_noPanic ?_
  refine wp_region_last (S := fun W => W.cell? ⟨d, 0, none⟩ = some (.slice (some ⟨g, 0, none⟩) n cap) ∧ W.cell? ⟨b, 0, none⟩ = some (.int .i64 zi) ∧ W.cell? ⟨b, 1, none⟩ = some (.int .i64 zp) ∧ W.cell? ⟨b, 2, none⟩ = some (.slice A1 n1 p1) ∧ W.cell? ⟨b, 3, none⟩ = some (.slice A2 n2 p2) ∧ W.cell? ⟨b, 4, none⟩ = some (.slice A3 n3 p3)) 7 (by kernel_rfl) (HS.out _ ((Keeps.refl [] w).drew)) (fun hHeld => ?_)
  obtain ⟨w0, hw0⟩ : ∃ w0, w.drew = w0 := ⟨_, rfl⟩
  try rw [hw0] at hHeld
  rw [hw0]
  have K0 : Keeps [] w w0 := by rw [← hw0]; exact (Keeps.refl [] w).drew
  clear hw0
  refine wpG_take (nx := [1, 2, 3, 6, 6, 6, 7]) (i := 0) (oi := ⟨some 22, .move (.tmp 0), 26, _, _, none⟩) (v := ?vq109) (by kernel_rfl) rfl (by decide) (by kernel_rfl) (by kernel_rfl) (by kernel_rfl) (fun _ _ _ h => h) (Or.inl ⟨by rfl, fun W hW => ?_⟩) (by assumption) ?_
  rotate_left
  · go_simp
    with_reducible rfl
  try simp only [Act.put, lA, l0, lS]
  refine wpG_take (nx := [1, 2, 3, 6, 6, 6, 7]) (i := 1) (oi := ⟨some 23, .nilCheck (.tmp 22), 0, _, _, none⟩) (v := ?vq110) (by kernel_rfl) rfl (by decide) (by kernel_rfl) (by kernel_rfl) (by kernel_rfl) (fun _ _ _ h => h) (Or.inl ⟨by rfl, fun W hW => ?_⟩) (by assumption) ?_
  rotate_left
  · go_simp
    with_reducible rfl
  try simp only [Act.put, lA, l0, lS]
  refine wpG_take (nx := [1, 2, 3, 6, 6, 6, 7]) (i := 2) (oi := ⟨some 24, .fieldAddr 71 (.tmp 23) 0, 0, _, _, none⟩) (v := ?vq111) (by kernel_rfl) rfl (by decide) (by kernel_rfl) (by kernel_rfl) (by kernel_rfl) (fun _ _ _ h => h) (Or.inl ⟨by rfl, fun W hW => ?_⟩) (by assumption) ?_
  rotate_left
  · go_simp
    with_reducible rfl
  try simp only [Act.put, lA, l0, lS]
  refine wpG_take (nx := [1, 2, 3, 6, 6, 6, 7]) (i := 3) (oi := ⟨some 25, .load 69 (.tmp 24), 69, _, _, none⟩) (v := .slice (some ⟨g, 0, none⟩) n cap) (by kernel_rfl) rfl (by decide) (by kernel_rfl) (by kernel_rfl) (by kernel_rfl) (fun _ _ _ h => h) (Or.inl ⟨by rfl, fun W hW => ?_⟩) (by assumption) ?_
  · (obtain ⟨a0, b0, b1, b2, b3, b4⟩ := hW; go_simp)
  try simp only [Act.put, lA, l0, lS]
  refine wpG_take (nx := [1, 2, 3, 6, 6, 6, 7]) (i := 4) (oi := ⟨some 26, .move (.tmp 1), 3, _, _, none⟩) (v := ?vq112) (by kernel_rfl) rfl (by decide) (by kernel_rfl) (by kernel_rfl) (by kernel_rfl) (fun _ _ _ h => h) (Or.inl ⟨by rfl, fun W hW => ?_⟩) (by assumption) ?_
  rotate_left
  · go_simp
    with_reducible rfl
  try simp only [Act.put, lA, l0, lS]
  refine wpG_take (nx := [1, 2, 3, 6, 6, 6, 7]) (i := 5) (oi := ⟨some 27, .load 68 (.tmp 6), 68, _, _, none⟩) (v := .agg #[.int .i64 zi, .int .i64 zp, .slice A1 n1 p1, .slice A2 n2 p2, .slice A3 n3 p3]) (by kernel_rfl) rfl (by decide) (by kernel_rfl) (by kernel_rfl) (by kernel_rfl) (fun _ _ _ h => h) (Or.inl ⟨by rfl, fun W hW => ?_⟩) (by assumption) ?_
  · (obtain ⟨a0, b0, b1, b2, b3, b4⟩ := hW; go_simp)
  try simp only [Act.put, lA, l0, lS]
  refine wpG_take (nx := [1, 2, 3, 6, 6, 6, 7]) (i := 6) (oi := ⟨some 28, .indexAddr 69 (.tmp 25) (.tmp 26), 0, _, _, none⟩) (v := ?vq113) (by kernel_rfl) rfl (by decide) (by kernel_rfl) (by kernel_rfl) (by kernel_rfl) (fun _ _ _ h => h) (Or.inl ⟨by rfl, fun W hW => ?_⟩) (by assumption) ?_
  rotate_left
  · go_simp
    with_reducible rfl
  try simp only [Act.put, lA, l0, lS]
  refine wpG_ready (rs := [7]) (by kernel_rfl) (by simp) ?_
  refine AllG.last (o := ⟨none, .store 68 (.tmp 28) (.tmp 27), 0, _, _, none⟩) rfl (fun KK hKK => ?_)
  refine step_store_own (by rfl) 68 (.tmp 28) (.tmp 27) (by rfl) g (k * 5) n cap 68 5 xs ?_ (HO.out _ K0) #[.int .i64 zi, .int .i64 zp, .slice A1 n1 p1, .slice A2 n2 p2, .slice A3 n3 p3] ?_ (by simp; omega) (by simp [Value.oneCell']) info68s (fun w5 o5 k5 => ?_)
  · first | (simp [Act.eval]; done) | (simp [Act.eval, Act.put]; done)
  · first | (simp [Act.eval]; done) | (simp [Act.eval, Act.put]; done)
  refine hKK.out _ _ ?_
  clear hKK KK hHeld
  try simp only [Act.put, lA, l0, lS]
  refine wpG_done (by kernel_rfl) ?_ _
  refine NoPanic.normal ?_
  exact hK _ _ _ _ _ _ _ _ K0 o5 k5
noncomputable def pu12C : Code := ((Tryz.f46.body.bind (theRegion 12)).getD .skip)
set_option maxRecDepth 1000000 in
set_option maxHeartbeats 1600000 in
set_option linter.unusedSimpArgs false in
theorem pu12_any (w : World) (d b g n cap k n1 n2 n3 p1 p2 p3 : Nat) (A1 A2 A3 : Option Addr) (zi zp : Int) (xs : List Value) (K : Exit → Act → World → Prop)
    (hS : ∀ W, Keeps [] w W → W.cell? ⟨d, 0, none⟩ = some (.slice (some ⟨g, 0, none⟩) n cap) ∧ W.cell? ⟨b, 0, none⟩ = some (.int .i64 zi) ∧ W.cell? ⟨b, 1, none⟩ = some (.int .i64 zp) ∧ W.cell? ⟨b, 2, none⟩ = some (.slice A1 n1 p1) ∧ W.cell? ⟨b, 3, none⟩ = some (.slice A2 n2 p2) ∧ W.cell? ⟨b, 4, none⟩ = some (.slice A3 n3 p3))
    (hO : ∀ W, Keeps [] w W → W.ownsRow 0 68 5 (.slice (some ⟨g, 0, none⟩) n cap) n xs) (hkn : k < n) (i0 : (0 : Int) ≤ (k : Int)) (i1 : (k : Int) < (n : Int))
    (u1 u2 u3 u4 u5 u6 u7 u10 u11 u12 u13 u14 u15 u16 u17 u18 u19 u20 u21 u22 u23 u24 u25 u26 u27 u28 u29 u30 u31 u32 u33 u34 u35 u36 u37 u38 u39 u40 u41 u42 u43 u44 u45 u46 u47 u48 u49 u50 u51 u52 u53 u54 u55 u56 u57 u58 u59 u60 u61 u62 u63 u64 u65 u66 u67 u68 u69 u70 u71 u72 u73 u74 u75 u76 u77 u78 u79 u80 u81 u82 u83 u84 u85 u86 u87 u88 u89 u90 u91 u92 u93 : Value)
    (hK : ∀ (v87 v88 v89 v90 v91 v92 v93 : Value) (w0 : World) {W : World}, Keeps [] w w0 → W.ownsRow 0 68 5 (.slice (some ⟨g, 0, none⟩) n cap) n (splice xs (k * 5) [.int .i64 zi, .int .i64 zp, .slice A1 n1 p1, .slice A2 n2 p2, .slice A3 n3 p3]) → Keeps [g] w0 W → K .normal ⟨#[.pointer (some ⟨d, 0, none⟩), u1, u2, u3, u4, u5, u6, u7, .int .i64 (k : Nat), .pointer (some ⟨b, 0, none⟩), u10, u11, u12, u13, u14, u15, u16, u17, u18, u19, u20, u21, u22, u23, u24, u25, u26, u27, u28, u29, u30, u31, u32, u33, u34, u35, u36, u37, u38, u39, u40, u41, u42, u43, u44, u45, u46, u47, u48, u49, u50, u51, u52, u53, u54, u55, u56, u57, u58, u59, u60, u61, u62, u63, u64, u65, u66, u67, u68, u69, u70, u71, u72, u73, u74, u75, u76, u77, u78, u79, u80, u81, u82, u83, u84, u85, u86, v87, v88, v89, v90, v91, v92, v93], []⟩ W) :
    Code.wp Tryz.prog pu12C K ⟨#[.pointer (some ⟨d, 0, none⟩), u1, u2, u3, u4, u5, u6, u7, .int .i64 (k : Nat), .pointer (some ⟨b, 0, none⟩), u10, u11, u12, u13, u14, u15, u16, u17, u18, u19, u20, u21, u22, u23, u24, u25, u26, u27, u28, u29, u30, u31, u32, u33, u34, u35, u36, u37, u38, u39, u40, u41, u42, u43, u44, u45, u46, u47, u48, u49, u50, u51, u52, u53, u54, u55, u56, u57, u58, u59, u60, u61, u62, u63, u64, u65, u66, u67, u68, u69, u70, u71, u72, u73, u74, u75, u76, u77, u78, u79, u80, u81, u82, u83, u84, u85, u86, u87, u88, u89, u90, u91, u92, u93], []⟩ w := by
  have HS := Lib.hid hS
  have HO := Lib.hid hO
  have HKN := Lib.hid hkn
  clear hS hO
  conv => arg 2; whnf
  try dsimp only at hK ⊢
  refine wp_region_noPanic ?_
  refine wp_region_last (S := fun W => W.cell? ⟨d, 0, none⟩ = some (.slice (some ⟨g, 0, none⟩) n cap) ∧ W.cell? ⟨b, 0, none⟩ = some (.int .i64 zi) ∧ W.cell? ⟨b, 1, none⟩ = some (.int .i64 zp) ∧ W.cell? ⟨b, 2, none⟩ = some (.slice A1 n1 p1) ∧ W.cell? ⟨b, 3, none⟩ = some (.slice A2 n2 p2) ∧ W.cell? ⟨b, 4, none⟩ = some (.slice A3 n3 p3)) 7 (by kernel_rfl) (HS.out _ ((Keeps.refl [] w).drew)) (fun hHeld => ?_)
  obtain ⟨w0, hw0⟩ : ∃ w0, w.drew = w0 := ⟨_, rfl⟩
  try rw [hw0] at hHeld
  rw [hw0]
  have K0 : Keeps [] w w0 := by rw [← hw0]; exact (Keeps.refl [] w).drew
  clear hw0
  refine wpG_take (nx := [1, 2, 3, 6, 6, 6, 7]) (i := 0) (oi := ⟨some 87, .move (.tmp 0), 26, _, _, none⟩) (v := ?vq114) (by kernel_rfl) rfl (by decide) (by kernel_rfl) (by kernel_rfl) (by kernel_rfl) (fun _ _ _ h => h) (Or.inl ⟨by rfl, fun W hW => ?_⟩) (by assumption) ?_
  rotate_left
  · go_simp
    with_reducible rfl
  try simp only [Act.put, lA, l0, lS]
  refine wpG_take (nx := [1, 2, 3, 6, 6, 6, 7]) (i := 1) (oi := ⟨some 88, .nilCheck (.tmp 87), 0, _, _, none⟩) (v := ?vq115) (by kernel_rfl) rfl (by decide) (by kernel_rfl) (by kernel_rfl) (by kernel_rfl) (fun _ _ _ h => h) (Or.inl ⟨by rfl, fun W hW => ?_⟩) (by assumption) ?_
  rotate_left
  · go_simp
    with_reducible rfl
  try simp only [Act.put, lA, l0, lS]
  refine wpG_take (nx := [1, 2, 3, 6, 6, 6, 7]) (i := 2) (oi := ⟨some 89, .fieldAddr 71 (.tmp 88) 0, 0, _, _, none⟩) (v := ?vq116) (by kernel_rfl) rfl (by decide) (by kernel_rfl) (by kernel_rfl) (by kernel_rfl) (fun _ _ _ h => h) (Or.inl ⟨by rfl, fun W hW => ?_⟩) (by assumption) ?_
  rotate_left
  · go_simp
    with_reducible rfl
  try simp only [Act.put, lA, l0, lS]
  refine wpG_take (nx := [1, 2, 3, 6, 6, 6, 7]) (i := 3) (oi := ⟨some 90, .load 69 (.tmp 89), 69, _, _, none⟩) (v := .slice (some ⟨g, 0, none⟩) n cap) (by kernel_rfl) rfl (by decide) (by kernel_rfl) (by kernel_rfl) (by kernel_rfl) (fun _ _ _ h => h) (Or.inl ⟨by rfl, fun W hW => ?_⟩) (by assumption) ?_
  · (obtain ⟨a0, b0, b1, b2, b3, b4⟩ := hW; go_simp)
  try simp only [Act.put, lA, l0, lS]
  refine wpG_take (nx := [1, 2, 3, 6, 6, 6, 7]) (i := 4) (oi := ⟨some 91, .move (.tmp 8), 3, _, _, none⟩) (v := ?vq117) (by kernel_rfl) rfl (by decide) (by kernel_rfl) (by kernel_rfl) (by kernel_rfl) (fun _ _ _ h => h) (Or.inl ⟨by rfl, fun W hW => ?_⟩) (by assumption) ?_
  rotate_left
  · go_simp
    with_reducible rfl
  try simp only [Act.put, lA, l0, lS]
  refine wpG_take (nx := [1, 2, 3, 6, 6, 6, 7]) (i := 5) (oi := ⟨some 92, .load 68 (.tmp 9), 68, _, _, none⟩) (v := .agg #[.int .i64 zi, .int .i64 zp, .slice A1 n1 p1, .slice A2 n2 p2, .slice A3 n3 p3]) (by kernel_rfl) rfl (by decide) (by kernel_rfl) (by kernel_rfl) (by kernel_rfl) (fun _ _ _ h => h) (Or.inl ⟨by rfl, fun W hW => ?_⟩) (by assumption) ?_
  · (obtain ⟨a0, b0, b1, b2, b3, b4⟩ := hW; go_simp)
  try simp only [Act.put, lA, l0, lS]
  refine wpG_take (nx := [1, 2, 3, 6, 6, 6, 7]) (i := 6) (oi := ⟨some 93, .indexAddr 69 (.tmp 90) (.tmp 91), 0, _, _, none⟩) (v := ?vq118) (by kernel_rfl) rfl (by decide) (by kernel_rfl) (by kernel_rfl) (by kernel_rfl) (fun _ _ _ h => h) (Or.inl ⟨by rfl, fun W hW => ?_⟩) (by assumption) ?_
  rotate_left
  · go_simp
    with_reducible rfl
  try simp only [Act.put, lA, l0, lS]
  refine wpG_ready (rs := [7]) (by kernel_rfl) (by simp) ?_
  refine AllG.last (o := ⟨none, .store 68 (.tmp 93) (.tmp 92), 0, _, _, none⟩) rfl (fun KK hKK => ?_)
  refine step_store_own (by rfl) 68 (.tmp 93) (.tmp 92) (by rfl) g (k * 5) n cap 68 5 xs ?_ (HO.out _ K0) #[.int .i64 zi, .int .i64 zp, .slice A1 n1 p1, .slice A2 n2 p2, .slice A3 n3 p3] ?_ (by simp; omega) (by simp [Value.oneCell']) info68s (fun w5 o5 k5 => ?_)
  · first | (simp [Act.eval]; done) | (simp [Act.eval, Act.put]; done)
  · first | (simp [Act.eval]; done) | (simp [Act.eval, Act.put]; done)
  refine hKK.out _ _ ?_
  clear hKK KK hHeld
  try simp only [Act.put, lA, l0, lS]
  refine wpG_done (by kernel_rfl) ?_ _
  refine NoPanic.normal ?_
  exact hK _ _ _ _ _ _ _ _ K0 o5 k5
noncomputable def lo11C : Code := ((Tryz.f48.body.bind (theRegion 11)).getD .skip)
set_option maxRecDepth 1000000 in
set_option maxHeartbeats 1600000 in
set_option linter.unusedSimpArgs false in
theorem lo11_any (w : World) (d b g n cap k n1 n2 n3 p1 p2 p3 : Nat) (A1 A2 A3 : Option Addr) (zi zp : Int) (xs : List Value) (K : Exit → Act → World → Prop)
    (hS : ∀ W, Keeps [] w W → W.cell? ⟨d, 0, none⟩ = some (.slice (some ⟨g, 0, none⟩) n cap) ∧ W.cell? ⟨b, 0, none⟩ = some (.int .i64 zi) ∧ W.cell? ⟨b, 1, none⟩ = some (.int .i64 zp) ∧ W.cell? ⟨b, 2, none⟩ = some (.slice A1 n1 p1) ∧ W.cell? ⟨b, 3, none⟩ = some (.slice A2 n2 p2) ∧ W.cell? ⟨b, 4, none⟩ = some (.slice A3 n3 p3))
    (hO : ∀ W, Keeps [] w W → W.ownsRow 0 68 5 (.slice (some ⟨g, 0, none⟩) n cap) n xs) (hkn : k < n) (i0 : (0 : Int) ≤ (k : Int)) (i1 : (k : Int) < (n : Int))
    (u1 u2 u3 u4 u5 u6 u7 u10 u11 u12 u13 u14 u15 u16 u17 u18 u19 u20 u21 u22 u23 u24 u25 u26 u27 u28 u29 u30 u31 u32 u33 u34 u35 u36 u37 u38 u39 u40 u41 u42 u43 u44 u45 u46 u47 u48 u49 u50 u51 u52 u53 u54 u55 u56 u57 u58 u59 u60 u61 u62 u63 u64 u65 u66 u67 u68 u69 u70 u71 u72 u73 u74 u75 u76 u77 u78 u79 u80 u81 u82 u83 u84 u85 u86 u87 u88 u89 u90 u91 u92 u93 u94 u95 u96 u97 u98 u99 u100 u101 : Value)
    (hK : ∀ (v95 v96 v97 v98 v99 v100 v101 : Value) (w0 : World) {W : World}, Keeps [] w w0 → W.ownsRow 0 68 5 (.slice (some ⟨g, 0, none⟩) n cap) n (splice xs (k * 5) [.int .i64 zi, .int .i64 zp, .slice A1 n1 p1, .slice A2 n2 p2, .slice A3 n3 p3]) → Keeps [g] w0 W → K .normal ⟨#[.pointer (some ⟨d, 0, none⟩), u1, u2, u3, u4, u5, u6, u7, .int .i64 (k : Nat), .pointer (some ⟨b, 0, none⟩), u10, u11, u12, u13, u14, u15, u16, u17, u18, u19, u20, u21, u22, u23, u24, u25, u26, u27, u28, u29, u30, u31, u32, u33, u34, u35, u36, u37, u38, u39, u40, u41, u42, u43, u44, u45, u46, u47, u48, u49, u50, u51, u52, u53, u54, u55, u56, u57, u58, u59, u60, u61, u62, u63, u64, u65, u66, u67, u68, u69, u70, u71, u72, u73, u74, u75, u76, u77, u78, u79, u80, u81, u82, u83, u84, u85, u86, u87, u88, u89, u90, u91, u92, u93, u94, v95, v96, v97, v98, v99, v100, v101], []⟩ W) :
    Code.wp Tryz.prog lo11C K ⟨#[.pointer (some ⟨d, 0, none⟩), u1, u2, u3, u4, u5, u6, u7, .int .i64 (k : Nat), .pointer (some ⟨b, 0, none⟩), u10, u11, u12, u13, u14, u15, u16, u17, u18, u19, u20, u21, u22, u23, u24, u25, u26, u27, u28, u29, u30, u31, u32, u33, u34, u35, u36, u37, u38, u39, u40, u41, u42, u43, u44, u45, u46, u47, u48, u49, u50, u51, u52, u53, u54, u55, u56, u57, u58, u59, u60, u61, u62, u63, u64, u65, u66, u67, u68, u69, u70, u71, u72, u73, u74, u75, u76, u77, u78, u79, u80, u81, u82, u83, u84, u85, u86, u87, u88, u89, u90, u91, u92, u93, u94, u95, u96, u97, u98, u99, u100, u101], []⟩ w := by
  have HS := Lib.hid hS
  have HO := Lib.hid hO
  have HKN := Lib.hid hkn
  clear hS hO
  conv => arg 2; whnf
  try dsimp only at hK ⊢
  refine wp_region_noPanic ?_
  refine wp_region_last (S := fun W => W.cell? ⟨d, 0, none⟩ = some (.slice (some ⟨g, 0, none⟩) n cap) ∧ W.cell? ⟨b, 0, none⟩ = some (.int .i64 zi) ∧ W.cell? ⟨b, 1, none⟩ = some (.int .i64 zp) ∧ W.cell? ⟨b, 2, none⟩ = some (.slice A1 n1 p1) ∧ W.cell? ⟨b, 3, none⟩ = some (.slice A2 n2 p2) ∧ W.cell? ⟨b, 4, none⟩ = some (.slice A3 n3 p3)) 7 (by kernel_rfl) (HS.out _ ((Keeps.refl [] w).drew)) (fun hHeld => ?_)
  obtain ⟨w0, hw0⟩ : ∃ w0, w.drew = w0 := ⟨_, rfl⟩
  try rw [hw0] at hHeld
  rw [hw0]
  have K0 : Keeps [] w w0 := by rw [← hw0]; exact (Keeps.refl [] w).drew
  clear hw0
  refine wpG_take (nx := [1, 2, 3, 6, 6, 6, 7]) (i := 0) (oi := ⟨some 95, .move (.tmp 0), 26, _, _, none⟩) (v := ?vq119) (by kernel_rfl) rfl (by decide) (by kernel_rfl) (by kernel_rfl) (by kernel_rfl) (fun _ _ _ h => h) (Or.inl ⟨by rfl, fun W hW => ?_⟩) (by assumption) ?_
  rotate_left
  · go_simp
    with_reducible rfl
  try simp only [Act.put, lA, l0, lS]
  refine wpG_take (nx := [1, 2, 3, 6, 6, 6, 7]) (i := 1) (oi := ⟨some 96, .nilCheck (.tmp 95), 0, _, _, none⟩) (v := ?vq120) (by kernel_rfl) rfl (by decide) (by kernel_rfl) (by kernel_rfl) (by kernel_rfl) (fun _ _ _ h => h) (Or.inl ⟨by rfl, fun W hW => ?_⟩) (by assumption) ?_
  rotate_left
  · go_simp
    with_reducible rfl
  try simp only [Act.put, lA, l0, lS]
  refine wpG_take (nx := [1, 2, 3, 6, 6, 6, 7]) (i := 2) (oi := ⟨some 97, .fieldAddr 71 (.tmp 96) 0, 0, _, _, none⟩) (v := ?vq121) (by kernel_rfl) rfl (by decide) (by kernel_rfl) (by kernel_rfl) (by kernel_rfl) (fun _ _ _ h => h) (Or.inl ⟨by rfl, fun W hW => ?_⟩) (by assumption) ?_
  rotate_left
  · go_simp
    with_reducible rfl
  try simp only [Act.put, lA, l0, lS]
  refine wpG_take (nx := [1, 2, 3, 6, 6, 6, 7]) (i := 3) (oi := ⟨some 98, .load 69 (.tmp 97), 69, _, _, none⟩) (v := .slice (some ⟨g, 0, none⟩) n cap) (by kernel_rfl) rfl (by decide) (by kernel_rfl) (by kernel_rfl) (by kernel_rfl) (fun _ _ _ h => h) (Or.inl ⟨by rfl, fun W hW => ?_⟩) (by assumption) ?_
  · (obtain ⟨a0, b0, b1, b2, b3, b4⟩ := hW; go_simp)
  try simp only [Act.put, lA, l0, lS]
  refine wpG_take (nx := [1, 2, 3, 6, 6, 6, 7]) (i := 4) (oi := ⟨some 99, .move (.tmp 8), 3, _, _, none⟩) (v := ?vq122) (by kernel_rfl) rfl (by decide) (by kernel_rfl) (by kernel_rfl) (by kernel_rfl) (fun _ _ _ h => h) (Or.inl ⟨by rfl, fun W hW => ?_⟩) (by assumption) ?_
  rotate_left
  · go_simp
    with_reducible rfl
  try simp only [Act.put, lA, l0, lS]
  refine wpG_take (nx := [1, 2, 3, 6, 6, 6, 7]) (i := 5) (oi := ⟨some 100, .load 68 (.tmp 9), 68, _, _, none⟩) (v := .agg #[.int .i64 zi, .int .i64 zp, .slice A1 n1 p1, .slice A2 n2 p2, .slice A3 n3 p3]) (by kernel_rfl) rfl (by decide) (by kernel_rfl) (by kernel_rfl) (by kernel_rfl) (fun _ _ _ h => h) (Or.inl ⟨by rfl, fun W hW => ?_⟩) (by assumption) ?_
  · (obtain ⟨a0, b0, b1, b2, b3, b4⟩ := hW; go_simp)
  try simp only [Act.put, lA, l0, lS]
  refine wpG_take (nx := [1, 2, 3, 6, 6, 6, 7]) (i := 6) (oi := ⟨some 101, .indexAddr 69 (.tmp 98) (.tmp 99), 0, _, _, none⟩) (v := ?vq123) (by kernel_rfl) rfl (by decide) (by kernel_rfl) (by kernel_rfl) (by kernel_rfl) (fun _ _ _ h => h) (Or.inl ⟨by rfl, fun W hW => ?_⟩) (by assumption) ?_
  rotate_left
  · go_simp
    with_reducible rfl
  try simp only [Act.put, lA, l0, lS]
  refine wpG_ready (rs := [7]) (by kernel_rfl) (by simp) ?_
  refine AllG.last (o := ⟨none, .store 68 (.tmp 101) (.tmp 100), 0, _, _, none⟩) rfl (fun KK hKK => ?_)
  refine step_store_own (by rfl) 68 (.tmp 101) (.tmp 100) (by rfl) g (k * 5) n cap 68 5 xs ?_ (HO.out _ K0) #[.int .i64 zi, .int .i64 zp, .slice A1 n1 p1, .slice A2 n2 p2, .slice A3 n3 p3] ?_ (by simp; omega) (by simp [Value.oneCell']) info68s (fun w5 o5 k5 => ?_)
  · first | (simp [Act.eval]; done) | (simp [Act.eval, Act.put]; done)
  · first | (simp [Act.eval]; done) | (simp [Act.eval, Act.put]; done)
  refine hKK.out _ _ ?_
  clear hKK KK hHeld
  try simp only [Act.put, lA, l0, lS]
  refine wpG_done (by kernel_rfl) ?_ _
  refine NoPanic.normal ?_
  exact hK _ _ _ _ _ _ _ _ K0 o5 k5
end Go.Proofs.YtbllmpcpfmlemaaGreat
