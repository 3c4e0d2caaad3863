/- The walk of do. -/
import Derived.Test.YtnnoekcnhdcodaaW7
namespace Go.Proofs.Ytnnoekcnhdcodaa
open Go.RowKit

theorem Blk.kr {w : World} {g : Nat} {t : TypeId} {cs : Array Value} (_ : Blk w g t cs) : Keeps [g] w w := Keeps.refl _ _
theorem Blk.to_ {w : World} {g : Nat} {t : TypeId} {cs cs2 : Array Value} (h : Blk w g t cs) (e : cs = cs2) : Blk w g t cs2 := e ▸ h
/-- A part of a row stored. -/
theorem wpList_store_at {P : Program} {ops : Array Oper} {rest : List Oper} {o : Oper} {a : Act} {w : World} {Q : Exit → Act → World → Prop} (hgd : o.guard = none) (ty : TypeId) (x y : Operand) (ho : o.op = .store ty x y) (hdst : o.dst = none)
    (g off : Nat) (hx : a.eval x = .pointer (some ⟨g, off, none⟩)) (t : TypeId) (old cs new : Array Value) (hb : Blk w g t old) (hy : a.eval y = .agg cs) (hs : off + cs.size ≤ old.size) (h1 : ∀ v ∈ cs.toList, v.oneCell' = true)
    (hi : (P.info? ty).map (·.size) = some cs.size) (hnew : (old.toList.take off ++ cs.toList ++ old.toList.drop (off + cs.size)).toArray = new)
    (h : ∀ w', Blk w' g t new → Keeps [g] w w' → wpList P ops Q rest a w') : wpList P ops Q (o :: rest) a w := by
  refine wpList_plain hgd fun _ hK => ?_
  cases hq : P.info? ty with
  | none => simp [hq] at hi
  | some i =>
    have hsz : i.size = cs.size := by simpa [hq] using hi
    have hst := run_storeCells_at P g off t cs.toList 0 old w hb (by simpa using hs) h1
    simp only [Nat.add_zero, Array.length_toList, hnew] at hst
    have hsv : (storeVar ty ⟨g, off, none⟩ (.agg cs)).run P w = .ok () (w.setRow g new) := by
      simp [storeVar, sizeOf, typeInfo, hq, hsz, Value.cells, hst]
    unfold Oper.wp execOp
    simp only [ho, hx, hy, Instr.storeAt, Instr.sureAddr, Sem.run_bind, Sem.run_pure, Result.andThen_ok, hsv]
    refine hK _ _ ?_
    rw [hdst]
    refine h _ (setRow_heap w g old new t _ hb) ⟨rfl, rfl, rfl, by simp [World.setRow], fun k _ hk => setRow_other w g k new (by simpa using hk)⟩
theorem do_m0 {m : Nat → Option E} {d pg fr : Int} {wr : Bool} (h : opk d = 0) : doM m d pg fr wr = mapM m pg fr wr := by simp [doM, h]
theorem do_v0 {m : Nat → Option E} {d pg fr : Int} {wr : Bool} (h : opk d = 0) : doV m d pg fr wr = .agg (gotC (mapN pg fr) false (0, ⟨0, false, false, false⟩)) := by simp [doV, doN, doB, doX, h]
theorem do_m1 {m : Nat → Option E} {d pg fr : Int} {wr : Bool} (h : opk d = 1) : doM m d pg fr wr = mapM m pg fr wr := by simp [doM, h]
theorem do_v1 {m : Nat → Option E} {d pg fr : Int} {wr : Bool} (h : opk d = 1) : doV m d pg fr wr = .agg (gotC (mapN pg fr) false (0, ⟨0, false, false, false⟩)) := by simp [doV, doN, doB, doX, h]
theorem do_m2 {m : Nat → Option E} {d pg fr : Int} {wr : Bool} (h : opk d = 2) : doM m d pg fr wr = unmM m pg := by simp [doM, h]
theorem do_v2 {m : Nat → Option E} {d pg fr : Int} {wr : Bool} (h : opk d = 2) : doV m d pg fr wr = .agg (gotC 0 (ent m pg).isSome (0, ⟨0, false, false, false⟩)) := by simp [doV, doN, doB, doX, h]
theorem do_m3 {m : Nat → Option E} {d pg fr : Int} {wr : Bool} (h : opk d = 3) : doM m d pg fr wr = wlkM m pg wr := by simp [doM, h]
theorem do_v3 {m : Nat → Option E} {d pg fr : Int} {wr : Bool} (h : opk d = 3) : doV m d pg fr wr = .agg (gotC (wlkN m pg wr) (wlkB m pg wr) (0, ⟨0, false, false, false⟩)) := by simp [doV, doN, doB, doX, h]
theorem do_m4 {m : Nat → Option E} {d pg fr : Int} {wr : Bool} (h : opk d = 4) : doM m d pg fr wr = wlkM m pg wr := by simp [doM, h]
theorem do_v4 {m : Nat → Option E} {d pg fr : Int} {wr : Bool} (h : opk d = 4) : doV m d pg fr wr = .agg (gotC (wlkN m pg wr) (wlkB m pg wr) (0, ⟨0, false, false, false⟩)) := by simp [doV, doN, doB, doX, h]
theorem do_m5 {m : Nat → Option E} {d pg fr : Int} {wr : Bool} (h : opk d = 5) : doM m d pg fr wr = m := by simp [doM, h]
theorem do_v5 {m : Nat → Option E} {d pg fr : Int} {wr : Bool} (h : opk d = 5) : doV m d pg fr wr = .agg (gotC 0 (ent m pg).isSome (lookX m pg)) := by simp [doV, doN, doB, doX, h]
theorem do_m6 {m : Nat → Option E} {d pg fr : Int} {wr : Bool} (h : opk d = 6) : doM m d pg fr wr = clrM m pg := by simp [doM, h]
theorem do_v6 {m : Nat → Option E} {d pg fr : Int} {wr : Bool} (h : opk d = 6) : doV m d pg fr wr = .agg (gotC 0 (clrB m pg) (0, ⟨0, false, false, false⟩)) := by simp [doV, doN, doB, doX, h]
theorem do_m7 {m : Nat → Option E} {d pg fr : Int} {wr : Bool} (h0 : ¬ opk d = 0) (h1 : ¬ opk d = 1) (h2 : ¬ opk d = 2) (h3 : ¬ opk d = 3) (h4 : ¬ opk d = 4) (h6 : ¬ opk d = 6) : doM m d pg fr wr = m := by simp [doM, h0, h1, h2, h3, h4, h6]
theorem do_v7 {m : Nat → Option E} {d pg fr : Int} {wr : Bool} (h0 : ¬ opk d = 0) (h1 : ¬ opk d = 1) (h2 : ¬ opk d = 2) (h3 : ¬ opk d = 3) (h4 : ¬ opk d = 4) (h5 : ¬ opk d = 5) (h6 : ¬ opk d = 6) : doV m d pg fr wr = .agg (gotC (levs m 16) false (0, ⟨0, false, false, false⟩)) := by simp [doV, doN, doB, doX, h0, h1, h2, h3, h4, h5, h6]

set_option maxRecDepth 100000 in
set_option maxHeartbeats 4000000 in
theorem do_any (w : World) (F : List Nat) (p : Nat) (m : Nat → Option E) (d pg fr : Int) (wr : Bool) (h : TbRep w F p m) (h1 : -9223372036854775808 ≤ pg) (h2 : pg ≤ 9223372036854775807) (h3 : -9223372036854775808 ≤ fr) (h4 : fr ≤ 9223372036854775807) :
    Calls Try.prog 9 #[.pointer (some ⟨p, 0, none⟩), .agg #[.int .i64 d, .int .i64 pg, .int .i64 fr, .bool wr]] w (Mapped w F p (doM m d pg fr wr) (doV m d pg fr wr)) := by
  have K0 : Keeps [] w (((w.alloc (.cells #[.int .i64 d, .int .i64 pg, .int .i64 fr, .bool wr] 32)).alloc (.cells (gotC 0 false (0, ⟨0, false, false, false⟩)) 29)).alloc (.cells (gotC 0 false (0, ⟨0, false, false, false⟩)) 29)) := (((Keeps.refl _ _).alloc _).alloc _).alloc _
  have hA := h.keep K0 (by simp)
  have b2 : Blk (((w.alloc (.cells #[.int .i64 d, .int .i64 pg, .int .i64 fr, .bool wr] 32)).alloc (.cells (gotC 0 false (0, ⟨0, false, false, false⟩)) 29)).alloc (.cells (gotC 0 false (0, ⟨0, false, false, false⟩)) 29)) (w.heap.size + 1) 29 (gotC 0 false (0, ⟨0, false, false, false⟩)) := by
    have := (Blk.new (w.alloc (.cells #[.int .i64 d, .int .i64 pg, .int .i64 fr, .bool wr] 32)) 29 (gotC 0 false (0, ⟨0, false, false, false⟩))).alloc (.cells (gotC 0 false (0, ⟨0, false, false, false⟩)) 29)
    simpa using this
  have b3 : Blk (((w.alloc (.cells #[.int .i64 d, .int .i64 pg, .int .i64 fr, .bool wr] 32)).alloc (.cells (gotC 0 false (0, ⟨0, false, false, false⟩)) 29)).alloc (.cells (gotC 0 false (0, ⟨0, false, false, false⟩)) 29)) (w.heap.size + 1 + 1) 29 (gotC 0 false (0, ⟨0, false, false, false⟩)) := by
    have := Blk.new ((w.alloc (.cells #[.int .i64 d, .int .i64 pg, .int .i64 fr, .bool wr] 32)).alloc (.cells (gotC 0 false (0, ⟨0, false, false, false⟩)) 29)) 29 (gotC 0 false (0, ⟨0, false, false, false⟩))
    simpa using this
  have n2 : w.heap.size + 1 ∉ F := fun hg => by have := h.lt _ hg; omega
  have n3 : w.heap.size + 1 + 1 ∉ F := fun hg => by have := h.lt _ hg; omega
  have HK0 := Lib.hid K0
  clear K0
  by_cases e0 : opk d = 0
  · have E : bits .and .i64 d 7 = 0 := e0
    have t0 : (bits .and .i64 d 7 == 0) = true := by simp [E]
    have HM := Lib.hid (do_m0 (m := m) (pg := pg) (fr := fr) (wr := wr) e0)
    have HV := Lib.hid (do_v0 (m := m) (pg := pg) (fr := fr) (wr := wr) e0)
    clear E e0
    have HX := Lib.hid (map_any _ F p m pg fr wr hA h1 h2 h3 h4)
    have HB2 := Lib.hid b2
    have HB3 := Lib.hid b3
    clear hA b2 b3
    go_enter Try.func9, Try.ntmps9
    go_wp2_with fail
    refine HX.out.mono ?_
    rintro e w1 ⟨F1, rfl, r1, k1, hF1⟩
    have c2 := HB2.out.keep k1 n2
    have c3 := HB3.out.keep k1 n3
    have HK := Lib.hid ((HK0.out.mono (G := F) (by simp)).trans k1 (fun g hg => .inl hg))
    have HR := Lib.hid r1
    have HF : Hid (∀ g ∈ F1, g ∈ F ∨ w.heap.size ≤ g) := Lib.hid (fun g hg => by rcases hF1 g hg with h0 | h0; exact .inl h0; right; simp at h0; omega)
    have z0 : w1.cell? ⟨w.heap.size + 1 + 1, 0, none⟩ = some (.int .i64 0) := c3.cell 0
    have y0 := c3.frozen 0
    have HS3 := Lib.hid ((c3.set_ 0 (.int .i64 (mapN pg fr))).to_ (cs2 := gotC (mapN pg fr) false (0, ⟨0, false, false, false⟩)) (by simp [gotC]))
    have HS2 := Lib.hid (c2.far (p := ⟨w.heap.size + 1 + 1, 0, none⟩) (by show w.heap.size + 1 ≠ w.heap.size + 1 + 1; omega) (.int .i64 (mapN pg fr)))
    have HSK := Lib.hid (HK.out.setCell (p := ⟨w.heap.size + 1 + 1, 0, none⟩) (.inr (by show w.heap.size ≤ w.heap.size + 1 + 1; omega)) (.int .i64 (mapN pg fr)))
    have hsk := (c3.kr.setCell (p := ⟨w.heap.size + 1 + 1, 0, none⟩) (.inl (by simp)) (.int .i64 (mapN pg fr)))
    have hd : ∀ g ∈ F1, g ∉ [w.heap.size + 1 + 1] := fun g hg hx => by have := List.mem_singleton.1 hx; subst this; rcases hF1 _ hg with h0 | h0; exact n3 h0; (simp at h0; try omega)
    have hd2 : Hid (∀ g ∈ F1, g ∉ [w.heap.size + 1]) := Lib.hid (fun g hg hx => by have := List.mem_singleton.1 hx; subst this; rcases hF1 _ hg with h0 | h0; exact n2 h0; (simp at h0; try omega))
    clear hF1
    have HSR := Lib.hid (HR.out.keep hsk hd)
    clear hsk hd c2 c3 HK HR HB2 HB3 r1 k1
    clear n3
    generalize w.heap.size + 1 + 1 = g3 at *
    go_wp2_with (first | (refine wpList_load_row rfl 29 _ rfl g3 rfl 29 (gotC (mapN pg fr) false (0, ⟨0, false, false, false⟩)) (0, 0) _ HS3.out Try.underlying29 rfl rfl ?_) | (refine wpList_store_blk rfl 29 _ _ rfl rfl (w.heap.size + 1) rfl 29 _ (gotC (mapN pg fr) false (0, ⟨0, false, false, false⟩)) HS2.out rfl rfl (gotC_ones _ _ _) rfl ?_; intro w9 b9 k9))
    refine bodyPost_ret (v := .agg (gotC (mapN pg fr) false (0, ⟨0, false, false, false⟩))) (results_cell_row Try.results9 _ _ (w.heap.size + 1) 29 _ (0, 0) _ rfl b9 Try.underlying29 rfl rfl) rfl ?_
    rw [HM.out, HV.out]
    exact ⟨F1, rfl, HSR.out.keep k9 hd2.out, HSK.out.trans k9 (fun g hg => .inr (by rw [List.mem_singleton.1 hg]; omega)), HF.out⟩
  by_cases e1 : opk d = 1
  · clear e0
    have E : bits .and .i64 d 7 = 1 := e1
    have t0 : (bits .and .i64 d 7 == 0) = false := by simp [E]
    have t1 : (bits .and .i64 d 7 == 1) = true := by simp [E]
    have HM := Lib.hid (do_m1 (m := m) (pg := pg) (fr := fr) (wr := wr) e1)
    have HV := Lib.hid (do_v1 (m := m) (pg := pg) (fr := fr) (wr := wr) e1)
    clear E e1
    have HX := Lib.hid (map_any _ F p m pg fr wr hA h1 h2 h3 h4)
    have HB2 := Lib.hid b2
    have HB3 := Lib.hid b3
    clear hA b2 b3
    go_enter Try.func9, Try.ntmps9
    go_wp2_with fail
    refine HX.out.mono ?_
    rintro e w1 ⟨F1, rfl, r1, k1, hF1⟩
    have c2 := HB2.out.keep k1 n2
    have c3 := HB3.out.keep k1 n3
    have HK := Lib.hid ((HK0.out.mono (G := F) (by simp)).trans k1 (fun g hg => .inl hg))
    have HR := Lib.hid r1
    have HF : Hid (∀ g ∈ F1, g ∈ F ∨ w.heap.size ≤ g) := Lib.hid (fun g hg => by rcases hF1 g hg with h0 | h0; exact .inl h0; right; simp at h0; omega)
    have z0 : w1.cell? ⟨w.heap.size + 1 + 1, 0, none⟩ = some (.int .i64 0) := c3.cell 0
    have y0 := c3.frozen 0
    have HS3 := Lib.hid ((c3.set_ 0 (.int .i64 (mapN pg fr))).to_ (cs2 := gotC (mapN pg fr) false (0, ⟨0, false, false, false⟩)) (by simp [gotC]))
    have HS2 := Lib.hid (c2.far (p := ⟨w.heap.size + 1 + 1, 0, none⟩) (by show w.heap.size + 1 ≠ w.heap.size + 1 + 1; omega) (.int .i64 (mapN pg fr)))
    have HSK := Lib.hid (HK.out.setCell (p := ⟨w.heap.size + 1 + 1, 0, none⟩) (.inr (by show w.heap.size ≤ w.heap.size + 1 + 1; omega)) (.int .i64 (mapN pg fr)))
    have hsk := (c3.kr.setCell (p := ⟨w.heap.size + 1 + 1, 0, none⟩) (.inl (by simp)) (.int .i64 (mapN pg fr)))
    have hd : ∀ g ∈ F1, g ∉ [w.heap.size + 1 + 1] := fun g hg hx => by have := List.mem_singleton.1 hx; subst this; rcases hF1 _ hg with h0 | h0; exact n3 h0; (simp at h0; try omega)
    have hd2 : Hid (∀ g ∈ F1, g ∉ [w.heap.size + 1]) := Lib.hid (fun g hg hx => by have := List.mem_singleton.1 hx; subst this; rcases hF1 _ hg with h0 | h0; exact n2 h0; (simp at h0; try omega))
    clear hF1
    have HSR := Lib.hid (HR.out.keep hsk hd)
    clear hsk hd c2 c3 HK HR HB2 HB3 r1 k1
    clear n3
    generalize w.heap.size + 1 + 1 = g3 at *
    go_wp2_with (first | (refine wpList_load_row rfl 29 _ rfl g3 rfl 29 (gotC (mapN pg fr) false (0, ⟨0, false, false, false⟩)) (0, 0) _ HS3.out Try.underlying29 rfl rfl ?_) | (refine wpList_store_blk rfl 29 _ _ rfl rfl (w.heap.size + 1) rfl 29 _ (gotC (mapN pg fr) false (0, ⟨0, false, false, false⟩)) HS2.out rfl rfl (gotC_ones _ _ _) rfl ?_; intro w9 b9 k9))
    refine bodyPost_ret (v := .agg (gotC (mapN pg fr) false (0, ⟨0, false, false, false⟩))) (results_cell_row Try.results9 _ _ (w.heap.size + 1) 29 _ (0, 0) _ rfl b9 Try.underlying29 rfl rfl) rfl ?_
    rw [HM.out, HV.out]
    exact ⟨F1, rfl, HSR.out.keep k9 hd2.out, HSK.out.trans k9 (fun g hg => .inr (by rw [List.mem_singleton.1 hg]; omega)), HF.out⟩
  by_cases e2 : opk d = 2
  · clear e0
    clear e1
    have E : bits .and .i64 d 7 = 2 := e2
    have t0 : (bits .and .i64 d 7 == 0) = false := by simp [E]
    have t1 : (bits .and .i64 d 7 == 1) = false := by simp [E]
    have t2 : (bits .and .i64 d 7 == 2) = true := by simp [E]
    have HM := Lib.hid (do_m2 (m := m) (pg := pg) (fr := fr) (wr := wr) e2)
    have HV := Lib.hid (do_v2 (m := m) (pg := pg) (fr := fr) (wr := wr) e2)
    clear E e2
    have HX := Lib.hid (unmap_any _ F p m pg hA h1 h2)
    have HB2 := Lib.hid b2
    have HB3 := Lib.hid b3
    clear hA b2 b3
    go_enter Try.func9, Try.ntmps9
    go_wp2_with fail
    refine HX.out.mono ?_
    rintro e w1 ⟨rfl, r1, k1⟩
    have c2 := HB2.out.keep k1 n2
    have c3 := HB3.out.keep k1 n3
    have HK := Lib.hid ((HK0.out.mono (G := F) (by simp)).trans k1 (fun g hg => .inl hg))
    have HR := Lib.hid r1
    have z1 : w1.cell? ⟨w.heap.size + 1 + 1, 1, none⟩ = some (.bool false) := c3.cell 1
    have y1 := c3.frozen 1
    have HS3 := Lib.hid ((c3.set_ 1 (.bool (ent m pg).isSome)).to_ (cs2 := gotC 0 (ent m pg).isSome (0, ⟨0, false, false, false⟩)) (by simp [gotC]))
    have HS2 := Lib.hid (c2.far (p := ⟨w.heap.size + 1 + 1, 1, none⟩) (by show w.heap.size + 1 ≠ w.heap.size + 1 + 1; omega) (.bool (ent m pg).isSome))
    have HSK := Lib.hid (HK.out.setCell (p := ⟨w.heap.size + 1 + 1, 1, none⟩) (.inr (by show w.heap.size ≤ w.heap.size + 1 + 1; omega)) (.bool (ent m pg).isSome))
    have hsk := (c3.kr.setCell (p := ⟨w.heap.size + 1 + 1, 1, none⟩) (.inl (by simp)) (.bool (ent m pg).isSome))
    have hd : ∀ g ∈ F, g ∉ [w.heap.size + 1 + 1] := fun g hg hx => by have := List.mem_singleton.1 hx; subst this; exact n3 hg
    have hd2 : Hid (∀ g ∈ F, g ∉ [w.heap.size + 1]) := Lib.hid (fun g hg hx => by have := List.mem_singleton.1 hx; subst this; exact n2 hg)
    have HSR := Lib.hid (HR.out.keep hsk hd)
    clear hsk hd c2 c3 HK HR HB2 HB3 r1 k1
    clear n3
    generalize w.heap.size + 1 + 1 = g3 at *
    go_wp2_with (first | (refine wpList_load_row rfl 29 _ rfl g3 rfl 29 (gotC 0 (ent m pg).isSome (0, ⟨0, false, false, false⟩)) (0, 0) _ HS3.out Try.underlying29 rfl rfl ?_) | (refine wpList_store_blk rfl 29 _ _ rfl rfl (w.heap.size + 1) rfl 29 _ (gotC 0 (ent m pg).isSome (0, ⟨0, false, false, false⟩)) HS2.out rfl rfl (gotC_ones _ _ _) rfl ?_; intro w9 b9 k9))
    refine bodyPost_ret (v := .agg (gotC 0 (ent m pg).isSome (0, ⟨0, false, false, false⟩))) (results_cell_row Try.results9 _ _ (w.heap.size + 1) 29 _ (0, 0) _ rfl b9 Try.underlying29 rfl rfl) rfl ?_
    rw [HM.out, HV.out]
    exact ⟨F, rfl, HSR.out.keep k9 hd2.out, HSK.out.trans k9 (fun g hg => .inr (by rw [List.mem_singleton.1 hg]; omega)), fun g hg => .inl hg⟩
  by_cases e3 : opk d = 3
  · clear e0
    clear e1
    clear e2
    have E : bits .and .i64 d 7 = 3 := e3
    have t0 : (bits .and .i64 d 7 == 0) = false := by simp [E]
    have t1 : (bits .and .i64 d 7 == 1) = false := by simp [E]
    have t2 : (bits .and .i64 d 7 == 2) = false := by simp [E]
    have t3 : (bits .and .i64 d 7 == 3) = true := by simp [E]
    have HM := Lib.hid (do_m3 (m := m) (pg := pg) (fr := fr) (wr := wr) e3)
    have HV := Lib.hid (do_v3 (m := m) (pg := pg) (fr := fr) (wr := wr) e3)
    clear E e3
    have HX := Lib.hid (walk_any _ F p m pg wr hA h1 h2)
    have HB2 := Lib.hid b2
    have HB3 := Lib.hid b3
    clear hA b2 b3
    go_enter Try.func9, Try.ntmps9
    go_wp2_with fail
    refine HX.out.mono ?_
    rintro e w1 ⟨rfl, r1, k1⟩
    have c2 := HB2.out.keep k1 n2
    have c3 := HB3.out.keep k1 n3
    have HK := Lib.hid ((HK0.out.mono (G := F) (by simp)).trans k1 (fun g hg => .inl hg))
    have HR := Lib.hid r1
    have z0 : w1.cell? ⟨w.heap.size + 1 + 1, 0, none⟩ = some (.int .i64 0) := c3.cell 0
    have y0 := c3.frozen 0
    have z1 : w1.cell? ⟨w.heap.size + 1 + 1, 1, none⟩ = some (.bool false) := c3.cell 1
    have y1 := c3.frozen 1
    have HS3 := Lib.hid (((c3.set_ 0 (.int .i64 (wlkN m pg wr))).set_ 1 (.bool (wlkB m pg wr))).to_ (cs2 := gotC (wlkN m pg wr) (wlkB m pg wr) (0, ⟨0, false, false, false⟩)) (by simp [gotC]))
    have HS2 := Lib.hid ((c2.far (p := ⟨w.heap.size + 1 + 1, 0, none⟩) (by show w.heap.size + 1 ≠ w.heap.size + 1 + 1; omega) (.int .i64 (wlkN m pg wr))).far (p := ⟨w.heap.size + 1 + 1, 1, none⟩) (by show w.heap.size + 1 ≠ w.heap.size + 1 + 1; omega) (.bool (wlkB m pg wr)))
    have HSK := Lib.hid ((HK.out.setCell (p := ⟨w.heap.size + 1 + 1, 0, none⟩) (.inr (by show w.heap.size ≤ w.heap.size + 1 + 1; omega)) (.int .i64 (wlkN m pg wr))).setCell (p := ⟨w.heap.size + 1 + 1, 1, none⟩) (.inr (by show w.heap.size ≤ w.heap.size + 1 + 1; omega)) (.bool (wlkB m pg wr)))
    have hsk := ((c3.kr.setCell (p := ⟨w.heap.size + 1 + 1, 0, none⟩) (.inl (by simp)) (.int .i64 (wlkN m pg wr))).setCell (p := ⟨w.heap.size + 1 + 1, 1, none⟩) (.inl (by simp)) (.bool (wlkB m pg wr)))
    have hd : ∀ g ∈ F, g ∉ [w.heap.size + 1 + 1] := fun g hg hx => by have := List.mem_singleton.1 hx; subst this; exact n3 hg
    have hd2 : Hid (∀ g ∈ F, g ∉ [w.heap.size + 1]) := Lib.hid (fun g hg hx => by have := List.mem_singleton.1 hx; subst this; exact n2 hg)
    have HSR := Lib.hid (HR.out.keep hsk hd)
    clear hsk hd c2 c3 HK HR HB2 HB3 r1 k1
    clear n3
    generalize w.heap.size + 1 + 1 = g3 at *
    go_wp2_with (first | (refine wpList_load_row rfl 29 _ rfl g3 rfl 29 (gotC (wlkN m pg wr) (wlkB m pg wr) (0, ⟨0, false, false, false⟩)) (0, 0) _ HS3.out Try.underlying29 rfl rfl ?_) | (refine wpList_store_blk rfl 29 _ _ rfl rfl (w.heap.size + 1) rfl 29 _ (gotC (wlkN m pg wr) (wlkB m pg wr) (0, ⟨0, false, false, false⟩)) HS2.out rfl rfl (gotC_ones _ _ _) rfl ?_; intro w9 b9 k9))
    refine bodyPost_ret (v := .agg (gotC (wlkN m pg wr) (wlkB m pg wr) (0, ⟨0, false, false, false⟩))) (results_cell_row Try.results9 _ _ (w.heap.size + 1) 29 _ (0, 0) _ rfl b9 Try.underlying29 rfl rfl) rfl ?_
    rw [HM.out, HV.out]
    exact ⟨F, rfl, HSR.out.keep k9 hd2.out, HSK.out.trans k9 (fun g hg => .inr (by rw [List.mem_singleton.1 hg]; omega)), fun g hg => .inl hg⟩
  by_cases e4 : opk d = 4
  · clear e0
    clear e1
    clear e2
    clear e3
    have E : bits .and .i64 d 7 = 4 := e4
    have t0 : (bits .and .i64 d 7 == 0) = false := by simp [E]
    have t1 : (bits .and .i64 d 7 == 1) = false := by simp [E]
    have t2 : (bits .and .i64 d 7 == 2) = false := by simp [E]
    have t3 : (bits .and .i64 d 7 == 3) = false := by simp [E]
    have t4 : (bits .and .i64 d 7 == 4) = true := by simp [E]
    have HM := Lib.hid (do_m4 (m := m) (pg := pg) (fr := fr) (wr := wr) e4)
    have HV := Lib.hid (do_v4 (m := m) (pg := pg) (fr := fr) (wr := wr) e4)
    clear E e4
    have HX := Lib.hid (walk_any _ F p m pg wr hA h1 h2)
    have HB2 := Lib.hid b2
    have HB3 := Lib.hid b3
    clear hA b2 b3
    go_enter Try.func9, Try.ntmps9
    go_wp2_with fail
    refine HX.out.mono ?_
    rintro e w1 ⟨rfl, r1, k1⟩
    have c2 := HB2.out.keep k1 n2
    have c3 := HB3.out.keep k1 n3
    have HK := Lib.hid ((HK0.out.mono (G := F) (by simp)).trans k1 (fun g hg => .inl hg))
    have HR := Lib.hid r1
    have z0 : w1.cell? ⟨w.heap.size + 1 + 1, 0, none⟩ = some (.int .i64 0) := c3.cell 0
    have y0 := c3.frozen 0
    have z1 : w1.cell? ⟨w.heap.size + 1 + 1, 1, none⟩ = some (.bool false) := c3.cell 1
    have y1 := c3.frozen 1
    have HS3 := Lib.hid (((c3.set_ 0 (.int .i64 (wlkN m pg wr))).set_ 1 (.bool (wlkB m pg wr))).to_ (cs2 := gotC (wlkN m pg wr) (wlkB m pg wr) (0, ⟨0, false, false, false⟩)) (by simp [gotC]))
    have HS2 := Lib.hid ((c2.far (p := ⟨w.heap.size + 1 + 1, 0, none⟩) (by show w.heap.size + 1 ≠ w.heap.size + 1 + 1; omega) (.int .i64 (wlkN m pg wr))).far (p := ⟨w.heap.size + 1 + 1, 1, none⟩) (by show w.heap.size + 1 ≠ w.heap.size + 1 + 1; omega) (.bool (wlkB m pg wr)))
    have HSK := Lib.hid ((HK.out.setCell (p := ⟨w.heap.size + 1 + 1, 0, none⟩) (.inr (by show w.heap.size ≤ w.heap.size + 1 + 1; omega)) (.int .i64 (wlkN m pg wr))).setCell (p := ⟨w.heap.size + 1 + 1, 1, none⟩) (.inr (by show w.heap.size ≤ w.heap.size + 1 + 1; omega)) (.bool (wlkB m pg wr)))
    have hsk := ((c3.kr.setCell (p := ⟨w.heap.size + 1 + 1, 0, none⟩) (.inl (by simp)) (.int .i64 (wlkN m pg wr))).setCell (p := ⟨w.heap.size + 1 + 1, 1, none⟩) (.inl (by simp)) (.bool (wlkB m pg wr)))
    have hd : ∀ g ∈ F, g ∉ [w.heap.size + 1 + 1] := fun g hg hx => by have := List.mem_singleton.1 hx; subst this; exact n3 hg
    have hd2 : Hid (∀ g ∈ F, g ∉ [w.heap.size + 1]) := Lib.hid (fun g hg hx => by have := List.mem_singleton.1 hx; subst this; exact n2 hg)
    have HSR := Lib.hid (HR.out.keep hsk hd)
    clear hsk hd c2 c3 HK HR HB2 HB3 r1 k1
    clear n3
    generalize w.heap.size + 1 + 1 = g3 at *
    go_wp2_with (first | (refine wpList_load_row rfl 29 _ rfl g3 rfl 29 (gotC (wlkN m pg wr) (wlkB m pg wr) (0, ⟨0, false, false, false⟩)) (0, 0) _ HS3.out Try.underlying29 rfl rfl ?_) | (refine wpList_store_blk rfl 29 _ _ rfl rfl (w.heap.size + 1) rfl 29 _ (gotC (wlkN m pg wr) (wlkB m pg wr) (0, ⟨0, false, false, false⟩)) HS2.out rfl rfl (gotC_ones _ _ _) rfl ?_; intro w9 b9 k9))
    refine bodyPost_ret (v := .agg (gotC (wlkN m pg wr) (wlkB m pg wr) (0, ⟨0, false, false, false⟩))) (results_cell_row Try.results9 _ _ (w.heap.size + 1) 29 _ (0, 0) _ rfl b9 Try.underlying29 rfl rfl) rfl ?_
    rw [HM.out, HV.out]
    exact ⟨F, rfl, HSR.out.keep k9 hd2.out, HSK.out.trans k9 (fun g hg => .inr (by rw [List.mem_singleton.1 hg]; omega)), fun g hg => .inl hg⟩
  by_cases e5 : opk d = 5
  · clear e0
    clear e1
    clear e2
    clear e3
    clear e4
    have E : bits .and .i64 d 7 = 5 := e5
    have t0 : (bits .and .i64 d 7 == 0) = false := by simp [E]
    have t1 : (bits .and .i64 d 7 == 1) = false := by simp [E]
    have t2 : (bits .and .i64 d 7 == 2) = false := by simp [E]
    have t3 : (bits .and .i64 d 7 == 3) = false := by simp [E]
    have t4 : (bits .and .i64 d 7 == 4) = false := by simp [E]
    have t5 : (bits .and .i64 d 7 == 5) = true := by simp [E]
    have HM := Lib.hid (do_m5 (m := m) (pg := pg) (fr := fr) (wr := wr) e5)
    have HV := Lib.hid (do_v5 (m := m) (pg := pg) (fr := fr) (wr := wr) e5)
    clear E e5
    have HX := Lib.hid (look_any2 _ F p m pg hA h1 h2)
    generalize lookX m pg = X at *
    obtain ⟨X1, X2, X3, X4, X5⟩ := X
    simp only [] at HX
    generalize hB : (ent m pg).isSome = B at *
    clear hB
    have HB2 := Lib.hid b2
    have HB3 := Lib.hid b3
    clear hA b2 b3
    go_enter Try.func9, Try.ntmps9
    go_wp2_with fail
    refine HX.out.mono ?_
    rintro e w1 ⟨rfl, r1, k1⟩
    have c2 := HB2.out.keep k1 (by simp)
    have c3 := HB3.out.keep k1 (by simp)
    have HK := Lib.hid ((HK0.out.mono (G := F) (by simp)).trans k1 (by simp))
    have HR := Lib.hid r1
    have hd2 : Hid (∀ g ∈ F, g ∉ [w.heap.size + 1]) := Lib.hid (fun g hg hx => by have := List.mem_singleton.1 hx; subst this; exact n2 hg)
    have hd : Hid (∀ g ∈ F, g ∉ [w.heap.size + 1 + 1]) := Lib.hid (fun g hg hx => by have := List.mem_singleton.1 hx; subst this; exact n3 hg)
    have n4 : w.heap.size + 1 ∉ [w.heap.size + 1 + 1] := by simp
    have n5 : w.heap.size ≤ w.heap.size + 1 + 1 := by omega
    have C2 := Lib.hid c2
    have C3 := Lib.hid c3
    clear c2 c3 HB2 HB3 r1 k1 n3
    generalize w.heap.size + 1 + 1 = g3 at *
    have hc1 : 2 + (#[.int .i64 X1, .int .i64 X2, .bool X3, .bool X4, .bool X5] : Array Value).size ≤ (gotC 0 false (0, ⟨0, false, false, false⟩)).size := by simp [gotC]
    have hc2 : ∀ v ∈ (#[.int .i64 X1, .int .i64 X2, .bool X3, .bool X4, .bool X5] : Array Value).toList, v.oneCell' = true := by simp [Value.oneCell']
    have hc3 : ((gotC 0 false (0, ⟨0, false, false, false⟩)).toList.take 2 ++ (#[.int .i64 X1, .int .i64 X2, .bool X3, .bool X4, .bool X5] : Array Value).toList ++ (gotC 0 false (0, ⟨0, false, false, false⟩)).toList.drop (2 + (#[.int .i64 X1, .int .i64 X2, .bool X3, .bool X4, .bool X5] : Array Value).size)).toArray = gotC 0 false (X1, ⟨X2, X3, X4, X5⟩) := rfl
    have hc1 := Lib.hid hc1; have hc2 := Lib.hid hc2; have hc3 := Lib.hid hc3
    go_wp2_with (refine wpList_store_at rfl 27 (.tmp 55) (.tmp 53) rfl rfl g3 2 rfl 29 (gotC 0 false (0, ⟨0, false, false, false⟩)) #[.int .i64 X1, .int .i64 X2, .bool X3, .bool X4, .bool X5] (gotC 0 false (X1, ⟨X2, X3, X4, X5⟩)) C3.out rfl hc1.out hc2.out rfl hc3.out ?_)
    intro w8 b8 k8
    have z1 : w8.cell? ⟨g3, 1, none⟩ = some (.bool false) := b8.cell 1
    have y1 := b8.frozen 1
    have HS3 := Lib.hid (b8.set_ 1 (.bool B))
    have HS2 := Lib.hid ((C2.out.keep k8 n4).far (p := ⟨g3, 1, none⟩) (by simpa using n4) (.bool B))
    have HSK := Lib.hid ((HK.out.trans k8 (fun g hg => .inr (by rw [List.mem_singleton.1 hg]; exact n5))).setCell (p := ⟨g3, 1, none⟩) (.inr n5) (.bool B))
    have HSR := Lib.hid ((HR.out.keep k8 hd.out).keep (b8.kr.setCell (p := ⟨g3, 1, none⟩) (.inl (by simp)) (.bool B)) hd.out)
    clear b8 k8 n4 C2 C3 HK HR
    go_wp2_with (first | (refine wpList_load_row rfl 29 _ rfl g3 rfl 29 (gotC 0 B (X1, ⟨X2, X3, X4, X5⟩)) (0, 0) _ HS3.out Try.underlying29 rfl rfl ?_) | (refine wpList_store_blk rfl 29 _ _ rfl rfl (w.heap.size + 1) rfl 29 _ (gotC 0 B (X1, ⟨X2, X3, X4, X5⟩)) HS2.out rfl rfl (gotC_ones _ _ _) rfl ?_; intro w9 b9 k9))
    refine bodyPost_ret (v := .agg (gotC 0 B (X1, ⟨X2, X3, X4, X5⟩))) (results_cell_row Try.results9 _ _ (w.heap.size + 1) 29 _ (0, 0) _ rfl b9 Try.underlying29 rfl rfl) rfl ?_
    rw [HM.out, HV.out]
    exact ⟨F, rfl, HSR.out.keep k9 hd2.out, HSK.out.trans k9 (fun g hg => .inr (by rw [List.mem_singleton.1 hg]; omega)), fun g hg => .inl hg⟩
  by_cases e6 : opk d = 6
  · clear e0
    clear e1
    clear e2
    clear e3
    clear e4
    clear e5
    have E : bits .and .i64 d 7 = 6 := e6
    have t0 : (bits .and .i64 d 7 == 0) = false := by simp [E]
    have t1 : (bits .and .i64 d 7 == 1) = false := by simp [E]
    have t2 : (bits .and .i64 d 7 == 2) = false := by simp [E]
    have t3 : (bits .and .i64 d 7 == 3) = false := by simp [E]
    have t4 : (bits .and .i64 d 7 == 4) = false := by simp [E]
    have t5 : (bits .and .i64 d 7 == 5) = false := by simp [E]
    have t6 : (bits .and .i64 d 7 == 6) = true := by simp [E]
    have HM := Lib.hid (do_m6 (m := m) (pg := pg) (fr := fr) (wr := wr) e6)
    have HV := Lib.hid (do_v6 (m := m) (pg := pg) (fr := fr) (wr := wr) e6)
    clear E e6
    have HX := Lib.hid (clear_any _ F p m pg hA h1 h2)
    have HB2 := Lib.hid b2
    have HB3 := Lib.hid b3
    clear hA b2 b3
    go_enter Try.func9, Try.ntmps9
    go_wp2_with fail
    refine HX.out.mono ?_
    rintro e w1 ⟨rfl, r1, k1⟩
    have c2 := HB2.out.keep k1 n2
    have c3 := HB3.out.keep k1 n3
    have HK := Lib.hid ((HK0.out.mono (G := F) (by simp)).trans k1 (fun g hg => .inl hg))
    have HR := Lib.hid r1
    have z1 : w1.cell? ⟨w.heap.size + 1 + 1, 1, none⟩ = some (.bool false) := c3.cell 1
    have y1 := c3.frozen 1
    have HS3 := Lib.hid ((c3.set_ 1 (.bool (clrB m pg))).to_ (cs2 := gotC 0 (clrB m pg) (0, ⟨0, false, false, false⟩)) (by simp [gotC]))
    have HS2 := Lib.hid (c2.far (p := ⟨w.heap.size + 1 + 1, 1, none⟩) (by show w.heap.size + 1 ≠ w.heap.size + 1 + 1; omega) (.bool (clrB m pg)))
    have HSK := Lib.hid (HK.out.setCell (p := ⟨w.heap.size + 1 + 1, 1, none⟩) (.inr (by show w.heap.size ≤ w.heap.size + 1 + 1; omega)) (.bool (clrB m pg)))
    have hsk := (c3.kr.setCell (p := ⟨w.heap.size + 1 + 1, 1, none⟩) (.inl (by simp)) (.bool (clrB m pg)))
    have hd : ∀ g ∈ F, g ∉ [w.heap.size + 1 + 1] := fun g hg hx => by have := List.mem_singleton.1 hx; subst this; exact n3 hg
    have hd2 : Hid (∀ g ∈ F, g ∉ [w.heap.size + 1]) := Lib.hid (fun g hg hx => by have := List.mem_singleton.1 hx; subst this; exact n2 hg)
    have HSR := Lib.hid (HR.out.keep hsk hd)
    clear hsk hd c2 c3 HK HR HB2 HB3 r1 k1
    clear n3
    generalize w.heap.size + 1 + 1 = g3 at *
    go_wp2_with (first | (refine wpList_load_row rfl 29 _ rfl g3 rfl 29 (gotC 0 (clrB m pg) (0, ⟨0, false, false, false⟩)) (0, 0) _ HS3.out Try.underlying29 rfl rfl ?_) | (refine wpList_store_blk rfl 29 _ _ rfl rfl (w.heap.size + 1) rfl 29 _ (gotC 0 (clrB m pg) (0, ⟨0, false, false, false⟩)) HS2.out rfl rfl (gotC_ones _ _ _) rfl ?_; intro w9 b9 k9))
    refine bodyPost_ret (v := .agg (gotC 0 (clrB m pg) (0, ⟨0, false, false, false⟩))) (results_cell_row Try.results9 _ _ (w.heap.size + 1) 29 _ (0, 0) _ rfl b9 Try.underlying29 rfl rfl) rfl ?_
    rw [HM.out, HV.out]
    exact ⟨F, rfl, HSR.out.keep k9 hd2.out, HSK.out.trans k9 (fun g hg => .inr (by rw [List.mem_singleton.1 hg]; omega)), fun g hg => .inl hg⟩
  have t0 : (bits .and .i64 d 7 == 0) = false := by simpa [opk] using e0
  have t1 : (bits .and .i64 d 7 == 1) = false := by simpa [opk] using e1
  have t2 : (bits .and .i64 d 7 == 2) = false := by simpa [opk] using e2
  have t3 : (bits .and .i64 d 7 == 3) = false := by simpa [opk] using e3
  have t4 : (bits .and .i64 d 7 == 4) = false := by simpa [opk] using e4
  have t5 : (bits .and .i64 d 7 == 5) = false := by simpa [opk] using e5
  have t6 : (bits .and .i64 d 7 == 6) = false := by simpa [opk] using e6
  have HM := Lib.hid (do_m7 (m := m) (pg := pg) (fr := fr) (wr := wr) e0 e1 e2 e3 e4 e6)
  have HV := Lib.hid (do_v7 (m := m) (pg := pg) (fr := fr) (wr := wr) e0 e1 e2 e3 e4 e5 e6)
  clear e0 e1 e2 e3 e4 e5 e6
  have HX := Lib.hid (levels_any _ F p m hA)
  have HB2 := Lib.hid b2
  have HB3 := Lib.hid b3
  clear hA b2 b3
  go_enter Try.func9, Try.ntmps9
  go_wp2_with fail
  refine HX.out.mono ?_
  rintro e w1 ⟨rfl, rfl⟩
  have c2 := HB2.out
  have c3 := HB3.out
  have HK := Lib.hid (HK0.out.mono (G := F) (by simp))
  have HR := Lib.hid (h.keep HK0.out (by simp))
  have z0 : (((w.alloc (.cells #[.int .i64 d, .int .i64 pg, .int .i64 fr, .bool wr] 32)).alloc (.cells (gotC 0 false (0, ⟨0, false, false, false⟩)) 29)).alloc (.cells (gotC 0 false (0, ⟨0, false, false, false⟩)) 29)).cell? ⟨w.heap.size + 1 + 1, 0, none⟩ = some (.int .i64 0) := c3.cell 0
  have y0 := c3.frozen 0
  have KK : Keeps [] w (((w.alloc (.cells #[.int .i64 d, .int .i64 pg, .int .i64 fr, .bool wr] 32)).alloc (.cells (gotC 0 false (0, ⟨0, false, false, false⟩)) 29)).alloc (.cells (gotC (levs m 16) false (0, ⟨0, false, false, false⟩)) 29)) := (((Keeps.refl _ _).alloc _).alloc _).alloc _
  have HS3 : Hid (Blk (((w.alloc (.cells #[.int .i64 d, .int .i64 pg, .int .i64 fr, .bool wr] 32)).alloc (.cells (gotC 0 false (0, ⟨0, false, false, false⟩)) 29)).alloc (.cells (gotC (levs m 16) false (0, ⟨0, false, false, false⟩)) 29)) (w.heap.size + 1 + 1) 29 (gotC (levs m 16) false (0, ⟨0, false, false, false⟩))) := Lib.hid (by have := Blk.new ((w.alloc (.cells #[.int .i64 d, .int .i64 pg, .int .i64 fr, .bool wr] 32)).alloc (.cells (gotC 0 false (0, ⟨0, false, false, false⟩)) 29)) 29 (gotC (levs m 16) false (0, ⟨0, false, false, false⟩)); simpa using this)
  have HS2 : Hid (Blk (((w.alloc (.cells #[.int .i64 d, .int .i64 pg, .int .i64 fr, .bool wr] 32)).alloc (.cells (gotC 0 false (0, ⟨0, false, false, false⟩)) 29)).alloc (.cells (gotC (levs m 16) false (0, ⟨0, false, false, false⟩)) 29)) (w.heap.size + 1) 29 (gotC 0 false (0, ⟨0, false, false, false⟩))) := Lib.hid (by have := (Blk.new (w.alloc (.cells #[.int .i64 d, .int .i64 pg, .int .i64 fr, .bool wr] 32)) 29 (gotC 0 false (0, ⟨0, false, false, false⟩))).alloc (.cells (gotC (levs m 16) false (0, ⟨0, false, false, false⟩)) 29); simpa using this)
  have HSK := Lib.hid (KK.mono (G := F) (by simp))
  have hd2 : Hid (∀ g ∈ F, g ∉ [w.heap.size + 1]) := Lib.hid (fun g hg hx => by have := List.mem_singleton.1 hx; subst this; exact n2 hg)
  have HSR := Lib.hid (h.keep KK (by simp))
  clear KK c2 c3 HK HR HB2 HB3
  go_wp2_with (first | (refine wpList_load_row rfl 29 _ rfl (w.heap.size + 1 + 1) rfl 29 (gotC (levs m 16) false (0, ⟨0, false, false, false⟩)) (0, 0) _ HS3.out Try.underlying29 rfl rfl ?_) | (refine wpList_store_blk rfl 29 _ _ rfl rfl (w.heap.size + 1) rfl 29 _ (gotC (levs m 16) false (0, ⟨0, false, false, false⟩)) HS2.out rfl rfl (gotC_ones _ _ _) rfl ?_; intro w9 b9 k9))
  refine bodyPost_ret (v := .agg (gotC (levs m 16) false (0, ⟨0, false, false, false⟩))) (results_cell_row Try.results9 _ _ (w.heap.size + 1) 29 _ (0, 0) _ rfl b9 Try.underlying29 rfl rfl) rfl ?_
  rw [HM.out, HV.out]
  exact ⟨F, rfl, HSR.out.keep k9 hd2.out, HSK.out.trans k9 (fun g hg => .inr (by rw [List.mem_singleton.1 hg]; omega)), fun g hg => .inl hg⟩
end Go.Proofs.Ytnnoekcnhdcodaa
