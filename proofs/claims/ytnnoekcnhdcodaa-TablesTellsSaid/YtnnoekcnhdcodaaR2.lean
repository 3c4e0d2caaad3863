/- The reference's Look, Clear and Walk. -/
import Derived.Test.YtnnoekcnhdcodaaR1
namespace Go.Proofs.Ytnnoekcnhdcodaa
open Go.RowKit

theorem cells5_set (L : List (Nat × E)) (i j : Nat) (hi : i < L.length) (hj : j < 5) (v : Value) (x : Nat × E) (hx : c5 x = (c5 L[i]).set j v) : (cells5 L).set (i * 5 + j) v = cells5 (L.set i x) := by
  induction L generalizing i with
  | nil => simp at hi
  | cons y r ih =>
    have hc : (c5 y).length = 5 := rfl
    show (c5 y ++ cells5 r).set (i * 5 + j) v = _
    cases i with
    | zero =>
      rw [List.set_append_left _ _ (by rw [hc]; omega)]
      simp only [List.getElem_cons_zero] at hx
      rw [Nat.zero_mul, Nat.zero_add, ← hx]
      rfl
    | succ i =>
      rw [List.set_append_right _ _ (by rw [hc]; omega), hc, show (i + 1) * 5 + j - 5 = i * 5 + j by omega, ih i (by simpa using hi) (by simpa using hx)]
      rfl
theorem ents_set {m : Nat → Option E} {k : Nat} {e : E} (hk : k < 256) (h : m k = some e) (e' : E) : ents (upd m k (some e')) 256 = (ents m 256).set (idx m (k : Int)) (k, e') := by
  rw [ents_upd _ hk, ents_three _ hk, h]
  have hi : idx m (k : Int) = (ents m k).length := by unfold idx; rw [cl_nat (by omega)]
  rw [hi]
  simp [opt1]
theorem idx_upd (m : Nat → Option E) {k : Nat} (hk : k < 256) (o : Option E) : idx (upd m k o) (k : Int) = idx m (k : Int) := by
  unfold idx
  rw [cl_nat (by omega), ents_congr (m := m) (fun i hi => upd_ne (by omega))]
theorem RfAt.one {w : World} {G : List Nat} {q : Nat} {m : Nat → Option E} {g cap : Nat} {k j : Nat} {e e' : E} {v : Value} (h : RfAt w G q m (some ⟨g, 0, none⟩) cap) (hk : k < 256) (hm : m k = some e) (hj : j < 5)
    (hc : c5 (k, e') = (c5 (k, e)).set j v) : RfAt (w.setCell ⟨g, idx m (k : Int) * 5 + j, none⟩ v) G q (upd m k (some e')) (some ⟨g, 0, none⟩) cap := by
  have hl : (ents (upd m k (some e')) 256).length = (ents m 256).length := by rw [ents_set hk hm, List.length_set]
  obtain ⟨hil, hit⟩ := idx_at hk hm
  have hq : q ≠ g := by have := h.off; simpa using this
  refine ⟨by rw [hl]; exact h.f, by rw [hl]; exact h.b.far hq _, ?_, fun i hi => ?_⟩
  · rw [hl, ents_set hk hm, ← cells5_set _ _ j hil hj v _ (by rw [hit]; exact hc)]
    exact own_set h.o _ _
  · rw [upd_ne (by omega)]; exact h.z i hi
theorem RfAt.cellj {w : World} {G : List Nat} {q : Nat} {m : Nat → Option E} {g cap : Nat} {k j : Nat} {e : E} {v : Value} (h : RfAt w G q m (some ⟨g, 0, none⟩) cap) (hk : k < 256) (hm : m k = some e) (hj : j < 5)
    (hc : (c5 (k, e))[j]? = some v) : w.cell? ⟨g, idx m (k : Int) * 5 + j, none⟩ = some v := by
  obtain ⟨hil, hit⟩ := idx_at hk hm
  refine own_cell h.o ?_
  rw [cells5_at _ _ _ hil hj, hit]
  exact hc

set_option maxRecDepth 100000 in
set_option maxHeartbeats 800000 in
theorem rlook_any (w : World) (G : List Nat) (q : Nat) (m : Nat → Option E) (pg : Int) (h : RfRep w G q m) :
    Calls Try.prog 25 #[.pointer (some ⟨q, 0, none⟩), .int .i64 pg] w fun e w' => e = .returned (.tuple #[.agg #[.int .i64 (lookX m pg).1, .int .i64 (lookX m pg).2.fr, .bool (lookX m pg).2.wr, .bool (lookX m pg).2.ac, .bool (lookX m pg).2.di], .bool (ent m pg).isSome]) ∧ RfRep w' G q m ∧ Keeps [] w w' := by
  have k1 : Keeps [] w (w.alloc (.cells #[.int .i64 0, .int .i64 0, .bool false, .bool false, .bool false] 27)) := (Keeps.refl _ _).alloc _
  have hA := h.keep k1 (by simp)
  have hi := index_any _ G q m pg hA
  have bz : Blk (w.alloc (.cells #[.int .i64 0, .int .i64 0, .bool false, .bool false, .bool false] 27)) w.heap.size 27 #[.int .i64 0, .int .i64 0, .bool false, .bool false, .bool false] := Blk.new _ _ _
  have HB := Lib.hid bz
  have HK := Lib.hid k1
  clear bz k1
  cases he : ent m pg with
  | none =>
    rw [he] at hi
    simp only [Option.isSome_none] at hi
    have HI := Lib.hid hi
    have HX := Lib.hid (lookX_none he)
    clear hi he
    go_enter Try.func25, Try.ntmps25
    go_wp2_with fail
    refine HI.out.mono ?_
    rintro e w1 ⟨rfl, k2⟩
    have b2 := HB.out.keep k2 (by simp)
    have z0 := b2.cell 0
    have z1 := b2.cell 1
    have z2 := b2.cell 2
    have z3 := b2.cell 3
    have z4 := b2.cell 4
    have f0 := b2.frozen 0
    have f1 := b2.frozen 1
    have f2 := b2.frozen 2
    have f3 := b2.frozen 3
    have f4 := b2.frozen 4
    have HB2 := Lib.hid b2
    have HR := Lib.hid (hA.keep k2 (by simp))
    have HK2 := Lib.hid (HK.out.trans k2 (by simp))
    clear b2 k2 HI
    go_wp2_with (refine wpList_store_blk rfl 27 _ _ rfl rfl w.heap.size rfl 27 _ #[.int .i64 0, .int .i64 0, .bool false, .bool false, .bool false] HB2.out rfl rfl (by simp [Value.oneCell']) rfl ?_; intro w9 b9 k9)
    refine bodyPost_ret (v := .tuple #[.agg #[.int .i64 0, .int .i64 0, .bool false, .bool false, .bool false], .bool false]) (by simp [results, Try.results25, go_sem, b9.cell 0, b9.cell 1, b9.cell 2, b9.cell 3, b9.cell 4]) rfl ?_
    rw [HX.out]
    have hng : ∀ g ∈ G, g ∉ [w.heap.size] := fun g hg h => by have := List.mem_singleton.1 h; subst this; have := RfRep.lt (by assumption : RfRep w G q m) _ hg; omega
    exact ⟨rfl, HR.out.keep k9 hng, HK2.out.trans k9 (fun g hg => .inr (by rw [List.mem_singleton.1 hg]; omega))⟩
  | some x =>
    rw [he] at hi
    simp only [Option.isSome_some] at hi
    have HI := Lib.hid hi
    have HX := Lib.hid (lookX_some he)
    obtain ⟨A, cap, hA⟩ := hA
    obtain ⟨k, rfl, hk, hm⟩ := ent_some_cl hA.z he
    obtain ⟨hn, hcap, hmax, hAA⟩ := hA.len
    obtain ⟨hil, hit⟩ := idx_at hk hm
    obtain ⟨g, rfl⟩ := hAA (by omega)
    have HM := Lib.hid hm
    clear hi he hit hAA hm
    go_enter Try.func25, Try.ntmps25
    go_wp2_with fail
    refine HI.out.mono ?_
    rintro e w1 ⟨rfl, k2⟩
    have h1 := hA.keep k2 (by simp)
    have c0 : w1.cell? ⟨q, 0, none⟩ = some (.slice (some ⟨g, 0, none⟩) (ents m 256).length cap) := h1.b.cell 0
    have p0 := h1.cellj hk HM.out (j := 0) (by omega) (v := .int .i64 k) rfl
    have p1 := h1.cellj hk HM.out (j := 1) (by omega) (v := .int .i64 x.fr) rfl
    have p2 := h1.cellj hk HM.out (j := 2) (by omega) (v := .bool x.wr) rfl
    have p3 := h1.cellj hk HM.out (j := 3) (by omega) (v := .bool x.ac) rfl
    have p4 := h1.cellj hk HM.out (j := 4) (by omega) (v := .bool x.di) rfl
    simp only [Nat.add_zero] at p0
    have hi0 : (0 : Int) ≤ (idx m (k : Int) : Nat) := by omega
    have hi1 : ((idx m (k : Int) : Nat) : Int) < ((ents m 256).length : Nat) := by omega
    have b2 := HB.out.keep k2 (by simp)
    have HB2 := Lib.hid b2
    have HR := Lib.hid h1
    have HK2 := Lib.hid (HK.out.trans k2 (by simp))
    clear b2 k2 HI h1 hA
    go_wp2_with (refine wpList_store_blk rfl 27 _ _ rfl rfl w.heap.size rfl 27 _ #[.int .i64 k, .int .i64 x.fr, .bool x.wr, .bool x.ac, .bool x.di] HB2.out rfl rfl (by simp [Value.oneCell']) rfl ?_; intro w9 b9 k9)
    refine bodyPost_ret (v := .tuple #[.agg #[.int .i64 k, .int .i64 x.fr, .bool x.wr, .bool x.ac, .bool x.di], .bool true]) (by simp [results, Try.results25, go_sem, b9.cell 0, b9.cell 1, b9.cell 2, b9.cell 3, b9.cell 4]) rfl ?_
    rw [HX.out]
    have hng : ∀ g ∈ G, g ∉ [w.heap.size] := fun g hg h => by have := List.mem_singleton.1 h; subst this; have := RfRep.lt (by assumption : RfRep w G q m) _ hg; omega
    exact ⟨rfl, ⟨_, _, HR.out.keep k9 hng⟩, HK2.out.trans k9 (fun g hg => .inr (by rw [List.mem_singleton.1 hg]; omega))⟩

set_option maxRecDepth 100000 in
set_option maxHeartbeats 800000 in
theorem rclear_any (w : World) (G : List Nat) (q : Nat) (m : Nat → Option E) (pg : Int) (h : RfRep w G q m) :
    Calls Try.prog 26 #[.pointer (some ⟨q, 0, none⟩), .int .i64 pg] w fun e w' => e = .returned (.bool (clrB m pg)) ∧ RfRep w' G q (clrM m pg) ∧ Keeps G w w' := by
  have hi := index_any _ G q m pg h
  cases he : ent m pg with
  | none =>
    rw [he] at hi
    simp only [Option.isSome_none] at hi
    have HI := Lib.hid hi
    have HE := Lib.hid he
    clear hi he
    go_enter Try.func26, Try.ntmps26
    go_wp2_with fail
    refine HI.out.mono ?_
    rintro e w1 ⟨rfl, k2⟩
    have HR := Lib.hid (h.keep k2 (by simp))
    have HK2 := Lib.hid (k2.mono (G := G) (by simp))
    clear k2
    go_wp2
    go_ret
    unfold clrB clrM
    rw [HE.out]
    exact ⟨rfl, HR.out, HK2.out⟩
  | some x =>
    rw [he] at hi
    simp only [Option.isSome_some] at hi
    have HI := Lib.hid hi
    have HE := Lib.hid he
    obtain ⟨A, cap, hA⟩ := h
    obtain ⟨k, rfl, hk, hm⟩ := ent_some_cl hA.z he
    obtain ⟨hn, hcap, hmax, hAA⟩ := hA.len
    obtain ⟨hil, hit⟩ := idx_at hk hm
    obtain ⟨g, rfl⟩ := hAA (by omega)
    have HM := Lib.hid hm
    clear hi he hit hAA hm
    go_enter Try.func26, Try.ntmps26
    go_wp2_with fail
    refine HI.out.mono ?_
    rintro e w1 ⟨rfl, k2⟩
    have h1 := hA.keep k2 (by simp)
    have c0 : w1.cell? ⟨q, 0, none⟩ = some (.slice (some ⟨g, 0, none⟩) (ents m 256).length cap) := h1.b.cell 0
    have p3 := h1.cellj hk HM.out (j := 3) (by omega) (v := .bool x.ac) rfl
    have f3 := own_free h1.o (idx m (k : Int) * 5 + 3)
    have hi0 : (0 : Int) ≤ (idx m (k : Int) : Nat) := by omega
    have hi1 : ((idx m (k : Int) : Nat) : Int) < ((ents m 256).length : Nat) := by omega
    have HR := Lib.hid (h1.one hk HM.out (j := 3) (by omega) (e' := ⟨x.fr, x.wr, false, x.di⟩) (v := .bool false) rfl)
    have hgG : g ∈ G := by rw [hA.f]; simp
    have HK2 := Lib.hid ((k2.mono (G := G) (by simp)).setCell (p := ⟨g, idx m (k : Int) * 5 + 3, none⟩) (.inl hgG) (.bool false))
    clear k2 HI h1 hA
    go_wp2
    go_ret
    unfold clrB clrM
    rw [HE.out]
    exact ⟨rfl, ⟨_, _, HR.out⟩, HK2.out⟩

set_option maxRecDepth 100000 in
set_option maxHeartbeats 800000 in
theorem rwalk_any (w : World) (G : List Nat) (q : Nat) (m : Nat → Option E) (pg : Int) (wr : Bool) (h : RfRep w G q m) :
    Calls Try.prog 24 #[.pointer (some ⟨q, 0, none⟩), .int .i64 pg, .bool wr] w fun e w' => e = .returned (.tuple #[.int .i64 (wlkN m pg wr), .bool (wlkB m pg wr)]) ∧ RfRep w' G q (wlkM m pg wr) ∧ Keeps G w w' := by
  have hi := index_any _ G q m pg h
  cases he : ent m pg with
  | none =>
    rw [he] at hi
    simp only [Option.isSome_none] at hi
    have HI := Lib.hid hi
    have HE := Lib.hid he
    clear hi he
    go_enter Try.func24, Try.ntmps24
    go_wp2_with fail
    refine HI.out.mono ?_
    rintro e w1 ⟨rfl, k2⟩
    have HR := Lib.hid (h.keep k2 (by simp))
    have HK2 := Lib.hid (k2.mono (G := G) (by simp))
    clear k2
    go_wp2
    go_ret2
    unfold wlkN wlkB wlkM
    rw [HE.out]
    exact ⟨rfl, HR.out, HK2.out⟩
  | some x =>
    rw [he] at hi
    simp only [Option.isSome_some] at hi
    have HI := Lib.hid hi
    have HE := Lib.hid he
    obtain ⟨A, cap, hA⟩ := h
    obtain ⟨k, rfl, hk, hm⟩ := ent_some_cl hA.z he
    obtain ⟨hn, hcap, hmax, hAA⟩ := hA.len
    obtain ⟨hil, hit⟩ := idx_at hk hm
    obtain ⟨g, rfl⟩ := hAA (by omega)
    have HM := Lib.hid hm
    clear hi he hit hAA hm
    obtain ⟨x1, x2, x3, x4⟩ := x
    go_enter Try.func24, Try.ntmps24
    go_wp2_with fail
    refine HI.out.mono ?_
    rintro e w1 ⟨rfl, k2⟩
    have h1 := hA.keep k2 (by simp)
    have c0 : w1.cell? ⟨q, 0, none⟩ = some (.slice (some ⟨g, 0, none⟩) (ents m 256).length cap) := h1.b.cell 0
    have hgq : g ≠ q := by have := h1.off; simp at this; exact fun e => this e.symm
    have hqg : q ≠ g := hgq.symm
    have p1 := h1.cellj hk HM.out (j := 1) (by omega) (v := .int .i64 x1) rfl
    have p2 := h1.cellj hk HM.out (j := 2) (by omega) (v := .bool x2) rfl
    have p3 := h1.cellj hk HM.out (j := 3) (by omega) (v := .bool x3) rfl
    have p4 := h1.cellj hk HM.out (j := 4) (by omega) (v := .bool x4) rfl
    have f3 := own_free h1.o (idx m (k : Int) * 5 + 3)
    have f4 := own_free h1.o (idx m (k : Int) * 5 + 4)
    have hi0 : (0 : Int) ≤ (idx m (k : Int) : Nat) := by omega
    have hi1 : ((idx m (k : Int) : Nat) : Int) < ((ents m 256).length : Nat) := by omega
    have hgG : g ∈ G := by rw [hA.f]; simp
    have H1 := Lib.hid h1
    have HK1 := Lib.hid (k2.mono (G := G) (by simp))
    have h2 := h1.one hk HM.out (j := 3) (by omega) (e' := ⟨x1, x2, true, x4⟩) (v := .bool true) rfl
    have h3 := h2.one hk (upd_same _ _ _) (j := 4) (by omega) (e' := ⟨x1, x2, true, true⟩) (v := .bool true) rfl
    rw [idx_upd _ hk] at h3
    have huu : upd (upd m k (some ⟨x1, x2, true, x4⟩)) k (some ⟨x1, x2, true, true⟩) = upd m k (some ⟨x1, x2, true, true⟩) := by funext z; unfold upd; split <;> rfl
    rw [huu] at h3
    have H2 := Lib.hid h2
    have H3 := Lib.hid h3
    have HK2 := Lib.hid (HK1.out.setCell (p := ⟨g, idx m (k : Int) * 5 + 3, none⟩) (.inl hgG) (.bool true))
    have HK3 := Lib.hid (HK2.out.setCell (p := ⟨g, idx m (k : Int) * 5 + 4, none⟩) (.inl hgG) (.bool true))
    clear k2 HI h1 hA h2 h3 huu
    cases wr
    · go_wp2
      go_ret2
      unfold wlkN wlkB wlkM
      rw [HE.out]
      exact ⟨rfl, by simpa using ⟨_, _, H2.out⟩, HK2.out⟩
    · cases x2
      · go_wp2
        go_ret2
        unfold wlkN wlkB wlkM
        rw [HE.out]
        exact ⟨rfl, ⟨_, _, H1.out⟩, HK1.out⟩
      · go_wp2
        go_ret2
        unfold wlkN wlkB wlkM
        rw [HE.out]
        exact ⟨rfl, by simpa using ⟨_, _, H3.out⟩, HK3.out⟩
end Go.Proofs.Ytnnoekcnhdcodaa
