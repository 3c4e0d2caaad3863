/- The reference: model (printed by n16gen.py). -/
import Derived.Test.YtcopjjokhjealaaGreatN15
namespace Go.Proofs.YtcopjjokhjealaaGreat
open Go.RowKit

/-- The reference's planner, its size in hand. -/
def QP (w : World) (G : List Nat) (q : Nat) (s : Pl) (Φ : Nat) : Prop := ∃ nl nc, QR w G q s nl nc ∧ nl ≤ Φ ∧ nc + s.li.length ≤ Φ
theorem QP.keep {w w' : World} {G H : List Nat} {q : Nat} {s : Pl} {Φ : Nat} (h : QP w G q s Φ) (hk : Keeps H w w') (hd : ∀ g ∈ G, g ∉ H) (hG : ∀ g ∈ H, ¬ IntRow w g) : QP w' G q s Φ := by
  obtain ⟨nl, nc, h, h1, h2⟩ := h
  exact ⟨nl, nc, h.keep hk hd hG, h1, h2⟩
theorem QP.keep0 {w w' : World} {G : List Nat} {q : Nat} {s : Pl} {Φ : Nat} (h : QP w G q s Φ) (hk : Keeps [] w w') : QP w' G q s Φ := h.keep hk (fun _ _ => by simp) (fun _ hg => by cases hg)
theorem QP.lt {w : World} {G : List Nat} {q : Nat} {s : Pl} {Φ : Nat} (h : QP w G q s Φ) : ∀ g ∈ G, g < w.heap.size := by obtain ⟨nl, nc, h, -⟩ := h; exact h.lt
theorem QP.noInt {w : World} {G : List Nat} {q : Nat} {s : Pl} {Φ : Nat} (h : QP w G q s Φ) : ∀ g ∈ G, ¬ IntRow w g := by obtain ⟨nl, nc, h, -⟩ := h; exact h.noInt
theorem QP.memq {w : World} {G : List Nat} {q : Nat} {s : Pl} {Φ : Nat} (h : QP w G q s Φ) : q ∈ G := by obtain ⟨nl, nc, h, -⟩ := h; exact h.memq
theorem QP.mono {w : World} {G : List Nat} {q : Nat} {s : Pl} {Φ Ψ : Nat} (h : QP w G q s Φ) (hΦ : Φ ≤ Ψ) : QP w G q s Ψ := by
  obtain ⟨nl, nc, h, h1, h2⟩ := h
  exact ⟨nl, nc, h, by omega, by omega⟩
/-- What model's contract says. -/
def MoQ (w : World) (G : List Nat) (q : Nat) (s : Pl) (Φ : Nat) (x : Op) (e : Ending) (w' : World) : Prop :=
  ∃ v s' o n en G', e = .returned (.tuple #[v, .int .i64 n, .int .i64 en]) ∧ DoR x s s' o n en ∧ w'.ownsRow 0 3 1 v o.length (zs o) ∧ QP w' G' q s' (Φ + 2) ∧ Keeps [q] w w' ∧ (∀ g ∈ G', g ∈ G ∨ w.heap.size ≤ g) ∧ ∀ g ∈ fp v, w.heap.size ≤ g
set_option maxRecDepth 100000 in
set_option maxHeartbeats 3200000 in
theorem mo0_any (w : World) (G : List Nat) (q : Nat) (s : Pl) (nl nc Φ : Nat) (h : QR w G q s nl nc) (hnl : nl ≤ Φ) (hnc : nc + s.li.length ≤ Φ) (hΦ : Φ ≤ 800) (hv : Inv NoR s) (hcp : Cap Φ s) (x : Op) (hx : OkO x) (_hxc : x.it.length ≤ x.c) (_hz : ∀ W, Keeps [q] w W → AtZ W x.A x.it) (hk : bits .and .i64 x.d 15 = 0) :
    Calls Tryz.prog 9 #[.pointer (some ⟨q, 0, none⟩), .agg #[.int .i64 x.d, .int .i64 x.l, .int .i64 x.i, .int .i64 x.t, .int .i64 x.pd, .slice x.A x.it.length x.c]] w (MoQ w G q s Φ x) := by
  have hf := hv.fit hcp
  have ka : Keeps [] w (w.alloc (.cells #[.int .i64 x.d, .int .i64 x.l, .int .i64 x.i, .int .i64 x.t, .int .i64 x.pd, .slice x.A x.it.length x.c] 34)) := (Keeps.refl _ _).alloc _
  have b0 : Hid (Blk (w.alloc (.cells #[.int .i64 x.d, .int .i64 x.l, .int .i64 x.i, .int .i64 x.t, .int .i64 x.pd, .slice x.A x.it.length x.c] 34)) w.heap.size 34 #[.int .i64 x.d, .int .i64 x.l, .int .i64 x.i, .int .i64 x.t, .int .i64 x.pd, .slice x.A x.it.length x.c]) := Lib.hid (Blk.new w 34 _)
  have hp0 := h.keep0 ka
  have HP0 := Lib.hid hp0
  have KA := Lib.hid ka
  have HX := Lib.hid hx
  have HV := Lib.hid hv
  have HF := Lib.hid hf
  have KD : Hid (dk x = 0) := Lib.hid (by unfold dk; rw [← and_15]; exact hk)
  have HC := Lib.hid (beganQ_any _ G q s nl nc hp0 (by omega) (by omega) hf.itl _ (by have := hf.cp.choose_spec.2; omega) hf.cp.choose_spec.1 x.l x.i x.t)
  obtain ⟨k, hkk⟩ : ∃ k, bits .and .i64 x.d 15 = k := ⟨_, rfl⟩
  clear h hp0 ka hx hf _hz hkk hv hcp
  go_enter Tryz.func9, Tryz.ntmps9
  have c0 : (w.alloc (.cells #[.int .i64 x.d, .int .i64 x.l, .int .i64 x.i, .int .i64 x.t, .int .i64 x.pd, .slice x.A x.it.length x.c] 34)).cell? ⟨w.heap.size, 0, none⟩ = some (.int .i64 x.d) := b0.out.cell 0
  have c1 : (w.alloc (.cells #[.int .i64 x.d, .int .i64 x.l, .int .i64 x.i, .int .i64 x.t, .int .i64 x.pd, .slice x.A x.it.length x.c] 34)).cell? ⟨w.heap.size, 1, none⟩ = some (.int .i64 x.l) := b0.out.cell 1
  have c2 : (w.alloc (.cells #[.int .i64 x.d, .int .i64 x.l, .int .i64 x.i, .int .i64 x.t, .int .i64 x.pd, .slice x.A x.it.length x.c] 34)).cell? ⟨w.heap.size, 2, none⟩ = some (.int .i64 x.i) := b0.out.cell 2
  have c3 : (w.alloc (.cells #[.int .i64 x.d, .int .i64 x.l, .int .i64 x.i, .int .i64 x.t, .int .i64 x.pd, .slice x.A x.it.length x.c] 34)).cell? ⟨w.heap.size, 3, none⟩ = some (.int .i64 x.t) := b0.out.cell 3
  have c4 : (w.alloc (.cells #[.int .i64 x.d, .int .i64 x.l, .int .i64 x.i, .int .i64 x.t, .int .i64 x.pd, .slice x.A x.it.length x.c] 34)).cell? ⟨w.heap.size, 4, none⟩ = some (.int .i64 x.pd) := b0.out.cell 4
  have c5 : (w.alloc (.cells #[.int .i64 x.d, .int .i64 x.l, .int .i64 x.i, .int .i64 x.t, .int .i64 x.pd, .slice x.A x.it.length x.c] 34)).cell? ⟨w.heap.size, 5, none⟩ = some (.slice x.A x.it.length x.c) := b0.out.cell 5
  go_wp2_with fail
  refine HC.out.mono ?_
  rintro e w1 ⟨rfl, ⟨G1, hp, k1, hg1⟩, hln⟩
  have HP := Lib.hid hp
  have HFF : Hid (∀ g ∈ G1, g ∈ G ∨ w.heap.size ≤ g) := Lib.hid (fun g hg => (hg1 g hg).imp_right (fun h => Nat.le_trans KA.out.size h))
  have K1 : Hid (Keeps [q] w w1) := Lib.hid ((KA.out.mono (by simp)).trans k1 (fun g hg => .inl hg))
  clear hp k1 hg1 HC c0 c1 c2 c3 c4 c5
  go_wp2_with fail
  go_ret3
  exact ⟨_, _, [], 0, _, G1, rfl, .beg (by have := KD.out; omega), World.ownsRow_nil _ _ _ _, ⟨nl, nc + 1, HP.out, by omega, by omega⟩, K1.out, HFF.out, by simp⟩
set_option maxRecDepth 100000 in
set_option maxHeartbeats 3200000 in
theorem mo1_any (w : World) (G : List Nat) (q : Nat) (s : Pl) (nl nc Φ : Nat) (h : QR w G q s nl nc) (hnl : nl ≤ Φ) (hnc : nc + s.li.length ≤ Φ) (hΦ : Φ ≤ 800) (hv : Inv NoR s) (hcp : Cap Φ s) (x : Op) (hx : OkO x) (_hxc : x.it.length ≤ x.c) (_hz : ∀ W, Keeps [q] w W → AtZ W x.A x.it) (hk : bits .and .i64 x.d 15 = 1) :
    Calls Tryz.prog 9 #[.pointer (some ⟨q, 0, none⟩), .agg #[.int .i64 x.d, .int .i64 x.l, .int .i64 x.i, .int .i64 x.t, .int .i64 x.pd, .slice x.A x.it.length x.c]] w (MoQ w G q s Φ x) := by
  have hf := hv.fit hcp
  have ka : Keeps [] w (w.alloc (.cells #[.int .i64 x.d, .int .i64 x.l, .int .i64 x.i, .int .i64 x.t, .int .i64 x.pd, .slice x.A x.it.length x.c] 34)) := (Keeps.refl _ _).alloc _
  have b0 : Hid (Blk (w.alloc (.cells #[.int .i64 x.d, .int .i64 x.l, .int .i64 x.i, .int .i64 x.t, .int .i64 x.pd, .slice x.A x.it.length x.c] 34)) w.heap.size 34 #[.int .i64 x.d, .int .i64 x.l, .int .i64 x.i, .int .i64 x.t, .int .i64 x.pd, .slice x.A x.it.length x.c]) := Lib.hid (Blk.new w 34 _)
  have hp0 := h.keep0 ka
  have HP0 := Lib.hid hp0
  have KA := Lib.hid ka
  have HX := Lib.hid hx
  have HV := Lib.hid hv
  have HF := Lib.hid hf
  have KD : Hid (dk x = 1) := Lib.hid (by unfold dk; rw [← and_15]; exact hk)
  have HC := Lib.hid (beganQ_any _ G q s nl nc hp0 (by omega) (by omega) hf.itl _ (by have := hf.cp.choose_spec.2; omega) hf.cp.choose_spec.1 x.l x.i x.t)
  obtain ⟨k, hkk⟩ : ∃ k, bits .and .i64 x.d 15 = k := ⟨_, rfl⟩
  clear h hp0 ka hx hf _hz hkk hv hcp
  go_enter Tryz.func9, Tryz.ntmps9
  have c0 : (w.alloc (.cells #[.int .i64 x.d, .int .i64 x.l, .int .i64 x.i, .int .i64 x.t, .int .i64 x.pd, .slice x.A x.it.length x.c] 34)).cell? ⟨w.heap.size, 0, none⟩ = some (.int .i64 x.d) := b0.out.cell 0
  have c1 : (w.alloc (.cells #[.int .i64 x.d, .int .i64 x.l, .int .i64 x.i, .int .i64 x.t, .int .i64 x.pd, .slice x.A x.it.length x.c] 34)).cell? ⟨w.heap.size, 1, none⟩ = some (.int .i64 x.l) := b0.out.cell 1
  have c2 : (w.alloc (.cells #[.int .i64 x.d, .int .i64 x.l, .int .i64 x.i, .int .i64 x.t, .int .i64 x.pd, .slice x.A x.it.length x.c] 34)).cell? ⟨w.heap.size, 2, none⟩ = some (.int .i64 x.i) := b0.out.cell 2
  have c3 : (w.alloc (.cells #[.int .i64 x.d, .int .i64 x.l, .int .i64 x.i, .int .i64 x.t, .int .i64 x.pd, .slice x.A x.it.length x.c] 34)).cell? ⟨w.heap.size, 3, none⟩ = some (.int .i64 x.t) := b0.out.cell 3
  have c4 : (w.alloc (.cells #[.int .i64 x.d, .int .i64 x.l, .int .i64 x.i, .int .i64 x.t, .int .i64 x.pd, .slice x.A x.it.length x.c] 34)).cell? ⟨w.heap.size, 4, none⟩ = some (.int .i64 x.pd) := b0.out.cell 4
  have c5 : (w.alloc (.cells #[.int .i64 x.d, .int .i64 x.l, .int .i64 x.i, .int .i64 x.t, .int .i64 x.pd, .slice x.A x.it.length x.c] 34)).cell? ⟨w.heap.size, 5, none⟩ = some (.slice x.A x.it.length x.c) := b0.out.cell 5
  go_wp2_with fail
  refine HC.out.mono ?_
  rintro e w1 ⟨rfl, ⟨G1, hp, k1, hg1⟩, hln⟩
  have HP := Lib.hid hp
  have HFF : Hid (∀ g ∈ G1, g ∈ G ∨ w.heap.size ≤ g) := Lib.hid (fun g hg => (hg1 g hg).imp_right (fun h => Nat.le_trans KA.out.size h))
  have K1 : Hid (Keeps [q] w w1) := Lib.hid ((KA.out.mono (by simp)).trans k1 (fun g hg => .inl hg))
  clear hp k1 hg1 HC c0 c1 c2 c3 c4 c5
  go_wp2_with fail
  go_ret3
  exact ⟨_, _, [], 0, _, G1, rfl, .beg (by have := KD.out; omega), World.ownsRow_nil _ _ _ _, ⟨nl, nc + 1, HP.out, by omega, by omega⟩, K1.out, HFF.out, by simp⟩
set_option maxRecDepth 100000 in
set_option maxHeartbeats 3200000 in
theorem mo2_any (w : World) (G : List Nat) (q : Nat) (s : Pl) (nl nc Φ : Nat) (h : QR w G q s nl nc) (hnl : nl ≤ Φ) (hnc : nc + s.li.length ≤ Φ) (hΦ : Φ ≤ 800) (hv : Inv NoR s) (hcp : Cap Φ s) (x : Op) (hx : OkO x) (_hxc : x.it.length ≤ x.c) (_hz : ∀ W, Keeps [q] w W → AtZ W x.A x.it) (hk : bits .and .i64 x.d 15 = 2) :
    Calls Tryz.prog 9 #[.pointer (some ⟨q, 0, none⟩), .agg #[.int .i64 x.d, .int .i64 x.l, .int .i64 x.i, .int .i64 x.t, .int .i64 x.pd, .slice x.A x.it.length x.c]] w (MoQ w G q s Φ x) := by
  have hf := hv.fit hcp
  have ka : Keeps [] w (w.alloc (.cells #[.int .i64 x.d, .int .i64 x.l, .int .i64 x.i, .int .i64 x.t, .int .i64 x.pd, .slice x.A x.it.length x.c] 34)) := (Keeps.refl _ _).alloc _
  have b0 : Hid (Blk (w.alloc (.cells #[.int .i64 x.d, .int .i64 x.l, .int .i64 x.i, .int .i64 x.t, .int .i64 x.pd, .slice x.A x.it.length x.c] 34)) w.heap.size 34 #[.int .i64 x.d, .int .i64 x.l, .int .i64 x.i, .int .i64 x.t, .int .i64 x.pd, .slice x.A x.it.length x.c]) := Lib.hid (Blk.new w 34 _)
  have hp0 := h.keep0 ka
  have HP0 := Lib.hid hp0
  have KA := Lib.hid ka
  have HX := Lib.hid hx
  have HV := Lib.hid hv
  have HF := Lib.hid hf
  have KD : Hid (dk x = 2) := Lib.hid (by unfold dk; rw [← and_15]; exact hk)
  have HC := Lib.hid (beganQ_any _ G q s nl nc hp0 (by omega) (by omega) hf.itl _ (by have := hf.cp.choose_spec.2; omega) hf.cp.choose_spec.1 x.l x.i x.t)
  obtain ⟨k, hkk⟩ : ∃ k, bits .and .i64 x.d 15 = k := ⟨_, rfl⟩
  clear h hp0 ka hx hf _hz hkk hv hcp
  go_enter Tryz.func9, Tryz.ntmps9
  have c0 : (w.alloc (.cells #[.int .i64 x.d, .int .i64 x.l, .int .i64 x.i, .int .i64 x.t, .int .i64 x.pd, .slice x.A x.it.length x.c] 34)).cell? ⟨w.heap.size, 0, none⟩ = some (.int .i64 x.d) := b0.out.cell 0
  have c1 : (w.alloc (.cells #[.int .i64 x.d, .int .i64 x.l, .int .i64 x.i, .int .i64 x.t, .int .i64 x.pd, .slice x.A x.it.length x.c] 34)).cell? ⟨w.heap.size, 1, none⟩ = some (.int .i64 x.l) := b0.out.cell 1
  have c2 : (w.alloc (.cells #[.int .i64 x.d, .int .i64 x.l, .int .i64 x.i, .int .i64 x.t, .int .i64 x.pd, .slice x.A x.it.length x.c] 34)).cell? ⟨w.heap.size, 2, none⟩ = some (.int .i64 x.i) := b0.out.cell 2
  have c3 : (w.alloc (.cells #[.int .i64 x.d, .int .i64 x.l, .int .i64 x.i, .int .i64 x.t, .int .i64 x.pd, .slice x.A x.it.length x.c] 34)).cell? ⟨w.heap.size, 3, none⟩ = some (.int .i64 x.t) := b0.out.cell 3
  have c4 : (w.alloc (.cells #[.int .i64 x.d, .int .i64 x.l, .int .i64 x.i, .int .i64 x.t, .int .i64 x.pd, .slice x.A x.it.length x.c] 34)).cell? ⟨w.heap.size, 4, none⟩ = some (.int .i64 x.pd) := b0.out.cell 4
  have c5 : (w.alloc (.cells #[.int .i64 x.d, .int .i64 x.l, .int .i64 x.i, .int .i64 x.t, .int .i64 x.pd, .slice x.A x.it.length x.c] 34)).cell? ⟨w.heap.size, 5, none⟩ = some (.slice x.A x.it.length x.c) := b0.out.cell 5
  go_wp2_with fail
  refine HC.out.mono ?_
  rintro e w1 ⟨rfl, ⟨G1, hp, k1, hg1⟩, hln⟩
  have HP := Lib.hid hp
  have HFF : Hid (∀ g ∈ G1, g ∈ G ∨ w.heap.size ≤ g) := Lib.hid (fun g hg => (hg1 g hg).imp_right (fun h => Nat.le_trans KA.out.size h))
  have K1 : Hid (Keeps [q] w w1) := Lib.hid ((KA.out.mono (by simp)).trans k1 (fun g hg => .inl hg))
  clear hp k1 hg1 HC c0 c1 c2 c3 c4 c5
  go_wp2_with fail
  go_ret3
  exact ⟨_, _, [], 0, _, G1, rfl, .beg (by have := KD.out; omega), World.ownsRow_nil _ _ _ _, ⟨nl, nc + 1, HP.out, by omega, by omega⟩, K1.out, HFF.out, by simp⟩
set_option maxRecDepth 100000 in
set_option maxHeartbeats 3200000 in
theorem mo3_any (w : World) (G : List Nat) (q : Nat) (s : Pl) (nl nc Φ : Nat) (h : QR w G q s nl nc) (hnl : nl ≤ Φ) (hnc : nc + s.li.length ≤ Φ) (hΦ : Φ ≤ 800) (hv : Inv NoR s) (hcp : Cap Φ s) (x : Op) (hx : OkO x) (_hxc : x.it.length ≤ x.c) (_hz : ∀ W, Keeps [q] w W → AtZ W x.A x.it) (hk : bits .and .i64 x.d 15 = 3) :
    Calls Tryz.prog 9 #[.pointer (some ⟨q, 0, none⟩), .agg #[.int .i64 x.d, .int .i64 x.l, .int .i64 x.i, .int .i64 x.t, .int .i64 x.pd, .slice x.A x.it.length x.c]] w (MoQ w G q s Φ x) := by
  have hf := hv.fit hcp
  have ka : Keeps [] w (w.alloc (.cells #[.int .i64 x.d, .int .i64 x.l, .int .i64 x.i, .int .i64 x.t, .int .i64 x.pd, .slice x.A x.it.length x.c] 34)) := (Keeps.refl _ _).alloc _
  have b0 : Hid (Blk (w.alloc (.cells #[.int .i64 x.d, .int .i64 x.l, .int .i64 x.i, .int .i64 x.t, .int .i64 x.pd, .slice x.A x.it.length x.c] 34)) w.heap.size 34 #[.int .i64 x.d, .int .i64 x.l, .int .i64 x.i, .int .i64 x.t, .int .i64 x.pd, .slice x.A x.it.length x.c]) := Lib.hid (Blk.new w 34 _)
  have hp0 := h.keep0 ka
  have HP0 := Lib.hid hp0
  have KA := Lib.hid ka
  have HX := Lib.hid hx
  have HV := Lib.hid hv
  have HF := Lib.hid hf
  have KD : Hid (dk x = 3) := Lib.hid (by unfold dk; rw [← and_15]; exact hk)
  have HC := Lib.hid (beganQ_any _ G q s nl nc hp0 (by omega) (by omega) hf.itl _ (by have := hf.cp.choose_spec.2; omega) hf.cp.choose_spec.1 x.l x.i x.t)
  obtain ⟨k, hkk⟩ : ∃ k, bits .and .i64 x.d 15 = k := ⟨_, rfl⟩
  clear h hp0 ka hx hf _hz hkk hv hcp
  go_enter Tryz.func9, Tryz.ntmps9
  have c0 : (w.alloc (.cells #[.int .i64 x.d, .int .i64 x.l, .int .i64 x.i, .int .i64 x.t, .int .i64 x.pd, .slice x.A x.it.length x.c] 34)).cell? ⟨w.heap.size, 0, none⟩ = some (.int .i64 x.d) := b0.out.cell 0
  have c1 : (w.alloc (.cells #[.int .i64 x.d, .int .i64 x.l, .int .i64 x.i, .int .i64 x.t, .int .i64 x.pd, .slice x.A x.it.length x.c] 34)).cell? ⟨w.heap.size, 1, none⟩ = some (.int .i64 x.l) := b0.out.cell 1
  have c2 : (w.alloc (.cells #[.int .i64 x.d, .int .i64 x.l, .int .i64 x.i, .int .i64 x.t, .int .i64 x.pd, .slice x.A x.it.length x.c] 34)).cell? ⟨w.heap.size, 2, none⟩ = some (.int .i64 x.i) := b0.out.cell 2
  have c3 : (w.alloc (.cells #[.int .i64 x.d, .int .i64 x.l, .int .i64 x.i, .int .i64 x.t, .int .i64 x.pd, .slice x.A x.it.length x.c] 34)).cell? ⟨w.heap.size, 3, none⟩ = some (.int .i64 x.t) := b0.out.cell 3
  have c4 : (w.alloc (.cells #[.int .i64 x.d, .int .i64 x.l, .int .i64 x.i, .int .i64 x.t, .int .i64 x.pd, .slice x.A x.it.length x.c] 34)).cell? ⟨w.heap.size, 4, none⟩ = some (.int .i64 x.pd) := b0.out.cell 4
  have c5 : (w.alloc (.cells #[.int .i64 x.d, .int .i64 x.l, .int .i64 x.i, .int .i64 x.t, .int .i64 x.pd, .slice x.A x.it.length x.c] 34)).cell? ⟨w.heap.size, 5, none⟩ = some (.slice x.A x.it.length x.c) := b0.out.cell 5
  go_wp2_with fail
  refine HC.out.mono ?_
  rintro e w1 ⟨rfl, ⟨G1, hp, k1, hg1⟩, hln⟩
  have HP := Lib.hid hp
  have HFF : Hid (∀ g ∈ G1, g ∈ G ∨ w.heap.size ≤ g) := Lib.hid (fun g hg => (hg1 g hg).imp_right (fun h => Nat.le_trans KA.out.size h))
  have K1 : Hid (Keeps [q] w w1) := Lib.hid ((KA.out.mono (by simp)).trans k1 (fun g hg => .inl hg))
  clear hp k1 hg1 HC c0 c1 c2 c3 c4 c5
  go_wp2_with fail
  go_ret3
  exact ⟨_, _, [], 0, _, G1, rfl, .beg (by have := KD.out; omega), World.ownsRow_nil _ _ _ _, ⟨nl, nc + 1, HP.out, by omega, by omega⟩, K1.out, HFF.out, by simp⟩
set_option maxRecDepth 100000 in
set_option maxHeartbeats 3200000 in
theorem mo4_any (w : World) (G : List Nat) (q : Nat) (s : Pl) (nl nc Φ : Nat) (h : QR w G q s nl nc) (hnl : nl ≤ Φ) (hnc : nc + s.li.length ≤ Φ) (hΦ : Φ ≤ 800) (hv : Inv NoR s) (hcp : Cap Φ s) (x : Op) (hx : OkO x) (_hxc : x.it.length ≤ x.c) (_hz : ∀ W, Keeps [q] w W → AtZ W x.A x.it) (hk : bits .and .i64 x.d 15 = 4) :
    Calls Tryz.prog 9 #[.pointer (some ⟨q, 0, none⟩), .agg #[.int .i64 x.d, .int .i64 x.l, .int .i64 x.i, .int .i64 x.t, .int .i64 x.pd, .slice x.A x.it.length x.c]] w (MoQ w G q s Φ x) := by
  have hf := hv.fit hcp
  have ka : Keeps [] w (w.alloc (.cells #[.int .i64 x.d, .int .i64 x.l, .int .i64 x.i, .int .i64 x.t, .int .i64 x.pd, .slice x.A x.it.length x.c] 34)) := (Keeps.refl _ _).alloc _
  have b0 : Hid (Blk (w.alloc (.cells #[.int .i64 x.d, .int .i64 x.l, .int .i64 x.i, .int .i64 x.t, .int .i64 x.pd, .slice x.A x.it.length x.c] 34)) w.heap.size 34 #[.int .i64 x.d, .int .i64 x.l, .int .i64 x.i, .int .i64 x.t, .int .i64 x.pd, .slice x.A x.it.length x.c]) := Lib.hid (Blk.new w 34 _)
  have hp0 := h.keep0 ka
  have HP0 := Lib.hid hp0
  have KA := Lib.hid ka
  have HX := Lib.hid hx
  have HV := Lib.hid hv
  have HF := Lib.hid hf
  have KD : Hid (dk x = 4) := Lib.hid (by unfold dk; rw [← and_15]; exact hk)
  have HC := Lib.hid (finishedQ_any _ G q s nl nc hp0 (by omega) x.l x.i)
  obtain ⟨k, hkk⟩ : ∃ k, bits .and .i64 x.d 15 = k := ⟨_, rfl⟩
  clear h hp0 ka hx hf _hz hkk hv hcp
  go_enter Tryz.func9, Tryz.ntmps9
  have c0 : (w.alloc (.cells #[.int .i64 x.d, .int .i64 x.l, .int .i64 x.i, .int .i64 x.t, .int .i64 x.pd, .slice x.A x.it.length x.c] 34)).cell? ⟨w.heap.size, 0, none⟩ = some (.int .i64 x.d) := b0.out.cell 0
  have c1 : (w.alloc (.cells #[.int .i64 x.d, .int .i64 x.l, .int .i64 x.i, .int .i64 x.t, .int .i64 x.pd, .slice x.A x.it.length x.c] 34)).cell? ⟨w.heap.size, 1, none⟩ = some (.int .i64 x.l) := b0.out.cell 1
  have c2 : (w.alloc (.cells #[.int .i64 x.d, .int .i64 x.l, .int .i64 x.i, .int .i64 x.t, .int .i64 x.pd, .slice x.A x.it.length x.c] 34)).cell? ⟨w.heap.size, 2, none⟩ = some (.int .i64 x.i) := b0.out.cell 2
  have c3 : (w.alloc (.cells #[.int .i64 x.d, .int .i64 x.l, .int .i64 x.i, .int .i64 x.t, .int .i64 x.pd, .slice x.A x.it.length x.c] 34)).cell? ⟨w.heap.size, 3, none⟩ = some (.int .i64 x.t) := b0.out.cell 3
  have c4 : (w.alloc (.cells #[.int .i64 x.d, .int .i64 x.l, .int .i64 x.i, .int .i64 x.t, .int .i64 x.pd, .slice x.A x.it.length x.c] 34)).cell? ⟨w.heap.size, 4, none⟩ = some (.int .i64 x.pd) := b0.out.cell 4
  have c5 : (w.alloc (.cells #[.int .i64 x.d, .int .i64 x.l, .int .i64 x.i, .int .i64 x.t, .int .i64 x.pd, .slice x.A x.it.length x.c] 34)).cell? ⟨w.heap.size, 5, none⟩ = some (.slice x.A x.it.length x.c) := b0.out.cell 5
  go_wp2_with fail
  refine HC.out.mono ?_
  rintro e w1 ⟨rfl, G1, hp, k1, hg1⟩
  have HP := Lib.hid hp
  have HFF : Hid (∀ g ∈ G1, g ∈ G ∨ w.heap.size ≤ g) := Lib.hid (fun g hg => (hg1 g hg).imp_right (fun h => Nat.le_trans KA.out.size h))
  have K1 : Hid (Keeps [q] w w1) := Lib.hid ((KA.out.mono (by simp)).trans k1 (fun g hg => .inl hg))
  have hfl : (finS s x.l x.i).li.length = s.li.length := by
    unfold finS
    by_cases hq : fndI s.li x.l x.i < 0
    · rw [if_pos hq]
    · rw [if_neg hq]; exact doneR_len _ _
  clear hp k1 hg1 HC c0 c1 c2 c3 c4 c5
  go_wp2_with fail
  go_ret3
  exact ⟨_, _, [], 0, _, G1, rfl, .fin (by have := KD.out; omega), World.ownsRow_nil _ _ _ _, ⟨nl, nc, HP.out, by omega, by omega⟩, K1.out, HFF.out, by simp⟩
set_option maxRecDepth 100000 in
set_option maxHeartbeats 3200000 in
theorem mo5_any (w : World) (G : List Nat) (q : Nat) (s : Pl) (nl nc Φ : Nat) (h : QR w G q s nl nc) (hnl : nl ≤ Φ) (hnc : nc + s.li.length ≤ Φ) (hΦ : Φ ≤ 800) (hv : Inv NoR s) (hcp : Cap Φ s) (x : Op) (hx : OkO x) (_hxc : x.it.length ≤ x.c) (_hz : ∀ W, Keeps [q] w W → AtZ W x.A x.it) (hk : bits .and .i64 x.d 15 = 5) :
    Calls Tryz.prog 9 #[.pointer (some ⟨q, 0, none⟩), .agg #[.int .i64 x.d, .int .i64 x.l, .int .i64 x.i, .int .i64 x.t, .int .i64 x.pd, .slice x.A x.it.length x.c]] w (MoQ w G q s Φ x) := by
  have hf := hv.fit hcp
  have ka : Keeps [] w (w.alloc (.cells #[.int .i64 x.d, .int .i64 x.l, .int .i64 x.i, .int .i64 x.t, .int .i64 x.pd, .slice x.A x.it.length x.c] 34)) := (Keeps.refl _ _).alloc _
  have b0 : Hid (Blk (w.alloc (.cells #[.int .i64 x.d, .int .i64 x.l, .int .i64 x.i, .int .i64 x.t, .int .i64 x.pd, .slice x.A x.it.length x.c] 34)) w.heap.size 34 #[.int .i64 x.d, .int .i64 x.l, .int .i64 x.i, .int .i64 x.t, .int .i64 x.pd, .slice x.A x.it.length x.c]) := Lib.hid (Blk.new w 34 _)
  have hp0 := h.keep0 ka
  have HP0 := Lib.hid hp0
  have KA := Lib.hid ka
  have HX := Lib.hid hx
  have HV := Lib.hid hv
  have HF := Lib.hid hf
  have KD : Hid (dk x = 5) := Lib.hid (by unfold dk; rw [← and_15]; exact hk)
  have HC := Lib.hid (finishedQ_any _ G q s nl nc hp0 (by omega) x.l x.i)
  obtain ⟨k, hkk⟩ : ∃ k, bits .and .i64 x.d 15 = k := ⟨_, rfl⟩
  clear h hp0 ka hx hf _hz hkk hv hcp
  go_enter Tryz.func9, Tryz.ntmps9
  have c0 : (w.alloc (.cells #[.int .i64 x.d, .int .i64 x.l, .int .i64 x.i, .int .i64 x.t, .int .i64 x.pd, .slice x.A x.it.length x.c] 34)).cell? ⟨w.heap.size, 0, none⟩ = some (.int .i64 x.d) := b0.out.cell 0
  have c1 : (w.alloc (.cells #[.int .i64 x.d, .int .i64 x.l, .int .i64 x.i, .int .i64 x.t, .int .i64 x.pd, .slice x.A x.it.length x.c] 34)).cell? ⟨w.heap.size, 1, none⟩ = some (.int .i64 x.l) := b0.out.cell 1
  have c2 : (w.alloc (.cells #[.int .i64 x.d, .int .i64 x.l, .int .i64 x.i, .int .i64 x.t, .int .i64 x.pd, .slice x.A x.it.length x.c] 34)).cell? ⟨w.heap.size, 2, none⟩ = some (.int .i64 x.i) := b0.out.cell 2
  have c3 : (w.alloc (.cells #[.int .i64 x.d, .int .i64 x.l, .int .i64 x.i, .int .i64 x.t, .int .i64 x.pd, .slice x.A x.it.length x.c] 34)).cell? ⟨w.heap.size, 3, none⟩ = some (.int .i64 x.t) := b0.out.cell 3
  have c4 : (w.alloc (.cells #[.int .i64 x.d, .int .i64 x.l, .int .i64 x.i, .int .i64 x.t, .int .i64 x.pd, .slice x.A x.it.length x.c] 34)).cell? ⟨w.heap.size, 4, none⟩ = some (.int .i64 x.pd) := b0.out.cell 4
  have c5 : (w.alloc (.cells #[.int .i64 x.d, .int .i64 x.l, .int .i64 x.i, .int .i64 x.t, .int .i64 x.pd, .slice x.A x.it.length x.c] 34)).cell? ⟨w.heap.size, 5, none⟩ = some (.slice x.A x.it.length x.c) := b0.out.cell 5
  go_wp2_with fail
  refine HC.out.mono ?_
  rintro e w1 ⟨rfl, G1, hp, k1, hg1⟩
  have HP := Lib.hid hp
  have HFF : Hid (∀ g ∈ G1, g ∈ G ∨ w.heap.size ≤ g) := Lib.hid (fun g hg => (hg1 g hg).imp_right (fun h => Nat.le_trans KA.out.size h))
  have K1 : Hid (Keeps [q] w w1) := Lib.hid ((KA.out.mono (by simp)).trans k1 (fun g hg => .inl hg))
  have hfl : (finS s x.l x.i).li.length = s.li.length := by
    unfold finS
    by_cases hq : fndI s.li x.l x.i < 0
    · rw [if_pos hq]
    · rw [if_neg hq]; exact doneR_len _ _
  clear hp k1 hg1 HC c0 c1 c2 c3 c4 c5
  go_wp2_with fail
  go_ret3
  exact ⟨_, _, [], 0, _, G1, rfl, .fin (by have := KD.out; omega), World.ownsRow_nil _ _ _ _, ⟨nl, nc, HP.out, by omega, by omega⟩, K1.out, HFF.out, by simp⟩
set_option maxRecDepth 100000 in
set_option maxHeartbeats 3200000 in
theorem mo6_any (w : World) (G : List Nat) (q : Nat) (s : Pl) (nl nc Φ : Nat) (h : QR w G q s nl nc) (hnl : nl ≤ Φ) (hnc : nc + s.li.length ≤ Φ) (hΦ : Φ ≤ 800) (hv : Inv NoR s) (hcp : Cap Φ s) (x : Op) (hx : OkO x) (hxc : x.it.length ≤ x.c) (hz : ∀ W, Keeps [q] w W → AtZ W x.A x.it) (hk : bits .and .i64 x.d 15 = 6) :
    Calls Tryz.prog 9 #[.pointer (some ⟨q, 0, none⟩), .agg #[.int .i64 x.d, .int .i64 x.l, .int .i64 x.i, .int .i64 x.t, .int .i64 x.pd, .slice x.A x.it.length x.c]] w (MoQ w G q s Φ x) := by
  have hf := hv.fit hcp
  have ka : Keeps [] w (w.alloc (.cells #[.int .i64 x.d, .int .i64 x.l, .int .i64 x.i, .int .i64 x.t, .int .i64 x.pd, .slice x.A x.it.length x.c] 34)) := (Keeps.refl _ _).alloc _
  have b0 : Hid (Blk (w.alloc (.cells #[.int .i64 x.d, .int .i64 x.l, .int .i64 x.i, .int .i64 x.t, .int .i64 x.pd, .slice x.A x.it.length x.c] 34)) w.heap.size 34 #[.int .i64 x.d, .int .i64 x.l, .int .i64 x.i, .int .i64 x.t, .int .i64 x.pd, .slice x.A x.it.length x.c]) := Lib.hid (Blk.new w 34 _)
  have hp0 := h.keep0 ka
  have HP0 := Lib.hid hp0
  have KA := Lib.hid ka
  have HX := Lib.hid hx
  have HV := Lib.hid hv
  have HF := Lib.hid hf
  have KD : Hid (dk x = 6) := Lib.hid (by unfold dk; rw [← and_15]; exact hk)
  have HC := Lib.hid (committedQ_any _ G q s nl nc hp0 (by omega) (by omega) hv.c hf.itl Φ (by omega) hcp x.l x.i x.A x.it x.c hxc (fun W hW => hz W ((ka.mono (by simp)).trans hW (fun g hg => .inl hg))))
  obtain ⟨k, hkk⟩ : ∃ k, bits .and .i64 x.d 15 = k := ⟨_, rfl⟩
  clear h hp0 ka hx hf hz hkk hv hcp
  go_enter Tryz.func9, Tryz.ntmps9
  have c0 : (w.alloc (.cells #[.int .i64 x.d, .int .i64 x.l, .int .i64 x.i, .int .i64 x.t, .int .i64 x.pd, .slice x.A x.it.length x.c] 34)).cell? ⟨w.heap.size, 0, none⟩ = some (.int .i64 x.d) := b0.out.cell 0
  have c1 : (w.alloc (.cells #[.int .i64 x.d, .int .i64 x.l, .int .i64 x.i, .int .i64 x.t, .int .i64 x.pd, .slice x.A x.it.length x.c] 34)).cell? ⟨w.heap.size, 1, none⟩ = some (.int .i64 x.l) := b0.out.cell 1
  have c2 : (w.alloc (.cells #[.int .i64 x.d, .int .i64 x.l, .int .i64 x.i, .int .i64 x.t, .int .i64 x.pd, .slice x.A x.it.length x.c] 34)).cell? ⟨w.heap.size, 2, none⟩ = some (.int .i64 x.i) := b0.out.cell 2
  have c3 : (w.alloc (.cells #[.int .i64 x.d, .int .i64 x.l, .int .i64 x.i, .int .i64 x.t, .int .i64 x.pd, .slice x.A x.it.length x.c] 34)).cell? ⟨w.heap.size, 3, none⟩ = some (.int .i64 x.t) := b0.out.cell 3
  have c4 : (w.alloc (.cells #[.int .i64 x.d, .int .i64 x.l, .int .i64 x.i, .int .i64 x.t, .int .i64 x.pd, .slice x.A x.it.length x.c] 34)).cell? ⟨w.heap.size, 4, none⟩ = some (.int .i64 x.pd) := b0.out.cell 4
  have c5 : (w.alloc (.cells #[.int .i64 x.d, .int .i64 x.l, .int .i64 x.i, .int .i64 x.t, .int .i64 x.pd, .slice x.A x.it.length x.c] 34)).cell? ⟨w.heap.size, 5, none⟩ = some (.slice x.A x.it.length x.c) := b0.out.cell 5
  go_wp2_with fail
  refine HC.out.mono ?_
  rintro e w1 ⟨v, s', o, en, nc1, rfl, hr, ho, ⟨G1, hp, k1, hg1⟩, hln, hf1⟩
  have HP := Lib.hid hp
  have HR := Lib.hid hr
  have HO := Lib.hid ho
  have HFF : Hid (∀ g ∈ G1, g ∈ G ∨ w.heap.size ≤ g) := Lib.hid (fun g hg => (hg1 g hg).imp_right (fun h => Nat.le_trans KA.out.size h))
  have K1 : Hid (Keeps [q] w w1) := Lib.hid ((KA.out.mono (by simp)).trans k1 (fun g hg => .inl hg))
  have HFR := Lib.hid (fun g hg => Nat.le_trans KA.out.size (hf1 g hg))
  obtain ⟨A5, c5', rfl, -, -, -⟩ := own_shape ho
  clear hp k1 hg1 hr ho hf1 HC c0 c1 c2 c3 c4 c5
  go_wp2_with fail
  go_ret3
  exact ⟨_, s', o, 0, en, G1, rfl, .com KD.out HR.out, HO.out, ⟨nl, nc1, HP.out, by omega, by omega⟩, K1.out, HFF.out, HFR.out⟩
set_option maxRecDepth 100000 in
set_option maxHeartbeats 3200000 in
theorem mo7_any (w : World) (G : List Nat) (q : Nat) (s : Pl) (nl nc Φ : Nat) (h : QR w G q s nl nc) (hnl : nl ≤ Φ) (hnc : nc + s.li.length ≤ Φ) (hΦ : Φ ≤ 800) (hv : Inv NoR s) (hcp : Cap Φ s) (x : Op) (hx : OkO x) (_hxc : x.it.length ≤ x.c) (_hz : ∀ W, Keeps [q] w W → AtZ W x.A x.it) (hk : bits .and .i64 x.d 15 = 7) :
    Calls Tryz.prog 9 #[.pointer (some ⟨q, 0, none⟩), .agg #[.int .i64 x.d, .int .i64 x.l, .int .i64 x.i, .int .i64 x.t, .int .i64 x.pd, .slice x.A x.it.length x.c]] w (MoQ w G q s Φ x) := by
  have hf := hv.fit hcp
  have ka : Keeps [] w (w.alloc (.cells #[.int .i64 x.d, .int .i64 x.l, .int .i64 x.i, .int .i64 x.t, .int .i64 x.pd, .slice x.A x.it.length x.c] 34)) := (Keeps.refl _ _).alloc _
  have b0 : Hid (Blk (w.alloc (.cells #[.int .i64 x.d, .int .i64 x.l, .int .i64 x.i, .int .i64 x.t, .int .i64 x.pd, .slice x.A x.it.length x.c] 34)) w.heap.size 34 #[.int .i64 x.d, .int .i64 x.l, .int .i64 x.i, .int .i64 x.t, .int .i64 x.pd, .slice x.A x.it.length x.c]) := Lib.hid (Blk.new w 34 _)
  have hp0 := h.keep0 ka
  have HP0 := Lib.hid hp0
  have KA := Lib.hid ka
  have HX := Lib.hid hx
  have HV := Lib.hid hv
  have HF := Lib.hid hf
  have KD : Hid (dk x = 7) := Lib.hid (by unfold dk; rw [← and_15]; exact hk)
  have HC := Lib.hid (failedQ_any _ G q s nl nc hp0 (by omega) (by omega) NoR hv.c _ (by have := hf.cp.choose_spec.2; omega) hf.cp.choose_spec.1 x.l x.i)
  obtain ⟨k, hkk⟩ : ∃ k, bits .and .i64 x.d 15 = k := ⟨_, rfl⟩
  clear h hp0 ka hx hf _hz hkk hv hcp
  go_enter Tryz.func9, Tryz.ntmps9
  have c0 : (w.alloc (.cells #[.int .i64 x.d, .int .i64 x.l, .int .i64 x.i, .int .i64 x.t, .int .i64 x.pd, .slice x.A x.it.length x.c] 34)).cell? ⟨w.heap.size, 0, none⟩ = some (.int .i64 x.d) := b0.out.cell 0
  have c1 : (w.alloc (.cells #[.int .i64 x.d, .int .i64 x.l, .int .i64 x.i, .int .i64 x.t, .int .i64 x.pd, .slice x.A x.it.length x.c] 34)).cell? ⟨w.heap.size, 1, none⟩ = some (.int .i64 x.l) := b0.out.cell 1
  have c2 : (w.alloc (.cells #[.int .i64 x.d, .int .i64 x.l, .int .i64 x.i, .int .i64 x.t, .int .i64 x.pd, .slice x.A x.it.length x.c] 34)).cell? ⟨w.heap.size, 2, none⟩ = some (.int .i64 x.i) := b0.out.cell 2
  have c3 : (w.alloc (.cells #[.int .i64 x.d, .int .i64 x.l, .int .i64 x.i, .int .i64 x.t, .int .i64 x.pd, .slice x.A x.it.length x.c] 34)).cell? ⟨w.heap.size, 3, none⟩ = some (.int .i64 x.t) := b0.out.cell 3
  have c4 : (w.alloc (.cells #[.int .i64 x.d, .int .i64 x.l, .int .i64 x.i, .int .i64 x.t, .int .i64 x.pd, .slice x.A x.it.length x.c] 34)).cell? ⟨w.heap.size, 4, none⟩ = some (.int .i64 x.pd) := b0.out.cell 4
  have c5 : (w.alloc (.cells #[.int .i64 x.d, .int .i64 x.l, .int .i64 x.i, .int .i64 x.t, .int .i64 x.pd, .slice x.A x.it.length x.c] 34)).cell? ⟨w.heap.size, 5, none⟩ = some (.slice x.A x.it.length x.c) := b0.out.cell 5
  go_wp2_with fail
  refine HC.out.mono ?_
  rintro e w1 ⟨v, s', o, en, nc1, rfl, hr, ho, ⟨G1, hp, k1, hg1⟩, hln, hf1⟩
  have HP := Lib.hid hp
  have HR := Lib.hid hr
  have HO := Lib.hid ho
  have HFF : Hid (∀ g ∈ G1, g ∈ G ∨ w.heap.size ≤ g) := Lib.hid (fun g hg => (hg1 g hg).imp_right (fun h => Nat.le_trans KA.out.size h))
  have K1 : Hid (Keeps [q] w w1) := Lib.hid ((KA.out.mono (by simp)).trans k1 (fun g hg => .inl hg))
  have HFR := Lib.hid (fun g hg => Nat.le_trans KA.out.size (hf1 g hg))
  obtain ⟨A5, c5', rfl, -, -, -⟩ := own_shape ho
  clear hp k1 hg1 hr ho hf1 HC c0 c1 c2 c3 c4 c5
  go_wp2_with fail
  go_ret3
  exact ⟨_, s', o, 0, en, G1, rfl, .con KD.out HR.out, HO.out, ⟨nl, nc1, HP.out, by omega, by omega⟩, K1.out, HFF.out, HFR.out⟩
set_option maxRecDepth 100000 in
set_option maxHeartbeats 3200000 in
theorem mo8_any (w : World) (G : List Nat) (q : Nat) (s : Pl) (nl nc Φ : Nat) (h : QR w G q s nl nc) (hnl : nl ≤ Φ) (hnc : nc + s.li.length ≤ Φ) (hΦ : Φ ≤ 800) (hv : Inv NoR s) (hcp : Cap Φ s) (x : Op) (hx : OkO x) (_hxc : x.it.length ≤ x.c) (_hz : ∀ W, Keeps [q] w W → AtZ W x.A x.it) (hk : bits .and .i64 x.d 15 = 8) :
    Calls Tryz.prog 9 #[.pointer (some ⟨q, 0, none⟩), .agg #[.int .i64 x.d, .int .i64 x.l, .int .i64 x.i, .int .i64 x.t, .int .i64 x.pd, .slice x.A x.it.length x.c]] w (MoQ w G q s Φ x) := by
  have hf := hv.fit hcp
  have ka : Keeps [] w (w.alloc (.cells #[.int .i64 x.d, .int .i64 x.l, .int .i64 x.i, .int .i64 x.t, .int .i64 x.pd, .slice x.A x.it.length x.c] 34)) := (Keeps.refl _ _).alloc _
  have b0 : Hid (Blk (w.alloc (.cells #[.int .i64 x.d, .int .i64 x.l, .int .i64 x.i, .int .i64 x.t, .int .i64 x.pd, .slice x.A x.it.length x.c] 34)) w.heap.size 34 #[.int .i64 x.d, .int .i64 x.l, .int .i64 x.i, .int .i64 x.t, .int .i64 x.pd, .slice x.A x.it.length x.c]) := Lib.hid (Blk.new w 34 _)
  have hp0 := h.keep0 ka
  have HP0 := Lib.hid hp0
  have KA := Lib.hid ka
  have HX := Lib.hid hx
  have HV := Lib.hid hv
  have HF := Lib.hid hf
  have KD : Hid (dk x = 8) := Lib.hid (by unfold dk; rw [← and_15]; exact hk)
  have HC := Lib.hid (droppedQ_any _ G q s nl nc hp0 (by omega) (by omega) NoR hv.c _ (by have := hf.cp.choose_spec.2; omega) hf.cp.choose_spec.1 x.l x.i)
  obtain ⟨k, hkk⟩ : ∃ k, bits .and .i64 x.d 15 = k := ⟨_, rfl⟩
  clear h hp0 ka hx hf _hz hkk hv hcp
  go_enter Tryz.func9, Tryz.ntmps9
  have c0 : (w.alloc (.cells #[.int .i64 x.d, .int .i64 x.l, .int .i64 x.i, .int .i64 x.t, .int .i64 x.pd, .slice x.A x.it.length x.c] 34)).cell? ⟨w.heap.size, 0, none⟩ = some (.int .i64 x.d) := b0.out.cell 0
  have c1 : (w.alloc (.cells #[.int .i64 x.d, .int .i64 x.l, .int .i64 x.i, .int .i64 x.t, .int .i64 x.pd, .slice x.A x.it.length x.c] 34)).cell? ⟨w.heap.size, 1, none⟩ = some (.int .i64 x.l) := b0.out.cell 1
  have c2 : (w.alloc (.cells #[.int .i64 x.d, .int .i64 x.l, .int .i64 x.i, .int .i64 x.t, .int .i64 x.pd, .slice x.A x.it.length x.c] 34)).cell? ⟨w.heap.size, 2, none⟩ = some (.int .i64 x.i) := b0.out.cell 2
  have c3 : (w.alloc (.cells #[.int .i64 x.d, .int .i64 x.l, .int .i64 x.i, .int .i64 x.t, .int .i64 x.pd, .slice x.A x.it.length x.c] 34)).cell? ⟨w.heap.size, 3, none⟩ = some (.int .i64 x.t) := b0.out.cell 3
  have c4 : (w.alloc (.cells #[.int .i64 x.d, .int .i64 x.l, .int .i64 x.i, .int .i64 x.t, .int .i64 x.pd, .slice x.A x.it.length x.c] 34)).cell? ⟨w.heap.size, 4, none⟩ = some (.int .i64 x.pd) := b0.out.cell 4
  have c5 : (w.alloc (.cells #[.int .i64 x.d, .int .i64 x.l, .int .i64 x.i, .int .i64 x.t, .int .i64 x.pd, .slice x.A x.it.length x.c] 34)).cell? ⟨w.heap.size, 5, none⟩ = some (.slice x.A x.it.length x.c) := b0.out.cell 5
  go_wp2_with fail
  refine HC.out.mono ?_
  rintro e w1 ⟨v, s', o, en, nc1, rfl, hr, ho, ⟨G1, hp, k1, hg1⟩, hln, hf1⟩
  have HP := Lib.hid hp
  have HR := Lib.hid hr
  have HO := Lib.hid ho
  have HFF : Hid (∀ g ∈ G1, g ∈ G ∨ w.heap.size ≤ g) := Lib.hid (fun g hg => (hg1 g hg).imp_right (fun h => Nat.le_trans KA.out.size h))
  have K1 : Hid (Keeps [q] w w1) := Lib.hid ((KA.out.mono (by simp)).trans k1 (fun g hg => .inl hg))
  have HFR := Lib.hid (fun g hg => Nat.le_trans KA.out.size (hf1 g hg))
  obtain ⟨A5, c5', rfl, -, -, -⟩ := own_shape ho
  clear hp k1 hg1 hr ho hf1 HC c0 c1 c2 c3 c4 c5
  go_wp2_with fail
  go_ret3
  exact ⟨_, s', o, 0, en, G1, rfl, .drp KD.out HR.out, HO.out, ⟨nl, nc1, HP.out, by omega, by omega⟩, K1.out, HFF.out, HFR.out⟩
set_option maxRecDepth 100000 in
set_option maxHeartbeats 3200000 in
theorem mo9_any (w : World) (G : List Nat) (q : Nat) (s : Pl) (nl nc Φ : Nat) (h : QR w G q s nl nc) (hnl : nl ≤ Φ) (hnc : nc + s.li.length ≤ Φ) (hΦ : Φ ≤ 800) (hv : Inv NoR s) (hcp : Cap Φ s) (x : Op) (hx : OkO x) (_hxc : x.it.length ≤ x.c) (_hz : ∀ W, Keeps [q] w W → AtZ W x.A x.it) (hk : bits .and .i64 x.d 15 = 9) :
    Calls Tryz.prog 9 #[.pointer (some ⟨q, 0, none⟩), .agg #[.int .i64 x.d, .int .i64 x.l, .int .i64 x.i, .int .i64 x.t, .int .i64 x.pd, .slice x.A x.it.length x.c]] w (MoQ w G q s Φ x) := by
  have hf := hv.fit hcp
  have ka : Keeps [] w (w.alloc (.cells #[.int .i64 x.d, .int .i64 x.l, .int .i64 x.i, .int .i64 x.t, .int .i64 x.pd, .slice x.A x.it.length x.c] 34)) := (Keeps.refl _ _).alloc _
  have b0 : Hid (Blk (w.alloc (.cells #[.int .i64 x.d, .int .i64 x.l, .int .i64 x.i, .int .i64 x.t, .int .i64 x.pd, .slice x.A x.it.length x.c] 34)) w.heap.size 34 #[.int .i64 x.d, .int .i64 x.l, .int .i64 x.i, .int .i64 x.t, .int .i64 x.pd, .slice x.A x.it.length x.c]) := Lib.hid (Blk.new w 34 _)
  have hp0 := h.keep0 ka
  have HP0 := Lib.hid hp0
  have KA := Lib.hid ka
  have HX := Lib.hid hx
  have HV := Lib.hid hv
  have HF := Lib.hid hf
  have KD : Hid (dk x = 9) := Lib.hid (by unfold dk; rw [← and_15]; exact hk)
  have HC := Lib.hid (goneQ_any _ G q s nl nc hp0 (by omega) (by omega) NoR hv.c x.l)
  obtain ⟨k, hkk⟩ : ∃ k, bits .and .i64 x.d 15 = k := ⟨_, rfl⟩
  clear h hp0 ka hx hf _hz hkk hv hcp
  go_enter Tryz.func9, Tryz.ntmps9
  have c0 : (w.alloc (.cells #[.int .i64 x.d, .int .i64 x.l, .int .i64 x.i, .int .i64 x.t, .int .i64 x.pd, .slice x.A x.it.length x.c] 34)).cell? ⟨w.heap.size, 0, none⟩ = some (.int .i64 x.d) := b0.out.cell 0
  have c1 : (w.alloc (.cells #[.int .i64 x.d, .int .i64 x.l, .int .i64 x.i, .int .i64 x.t, .int .i64 x.pd, .slice x.A x.it.length x.c] 34)).cell? ⟨w.heap.size, 1, none⟩ = some (.int .i64 x.l) := b0.out.cell 1
  have c2 : (w.alloc (.cells #[.int .i64 x.d, .int .i64 x.l, .int .i64 x.i, .int .i64 x.t, .int .i64 x.pd, .slice x.A x.it.length x.c] 34)).cell? ⟨w.heap.size, 2, none⟩ = some (.int .i64 x.i) := b0.out.cell 2
  have c3 : (w.alloc (.cells #[.int .i64 x.d, .int .i64 x.l, .int .i64 x.i, .int .i64 x.t, .int .i64 x.pd, .slice x.A x.it.length x.c] 34)).cell? ⟨w.heap.size, 3, none⟩ = some (.int .i64 x.t) := b0.out.cell 3
  have c4 : (w.alloc (.cells #[.int .i64 x.d, .int .i64 x.l, .int .i64 x.i, .int .i64 x.t, .int .i64 x.pd, .slice x.A x.it.length x.c] 34)).cell? ⟨w.heap.size, 4, none⟩ = some (.int .i64 x.pd) := b0.out.cell 4
  have c5 : (w.alloc (.cells #[.int .i64 x.d, .int .i64 x.l, .int .i64 x.i, .int .i64 x.t, .int .i64 x.pd, .slice x.A x.it.length x.c] 34)).cell? ⟨w.heap.size, 5, none⟩ = some (.slice x.A x.it.length x.c) := b0.out.cell 5
  go_wp2_with fail
  refine HC.out.mono ?_
  rintro e w1 ⟨v, s', o, rfl, hr, ho, ⟨G1, hp, k1, hg1⟩, hln, hf1⟩
  have HP := Lib.hid hp
  have HR := Lib.hid hr
  have HO := Lib.hid ho
  have HFF : Hid (∀ g ∈ G1, g ∈ G ∨ w.heap.size ≤ g) := Lib.hid (fun g hg => (hg1 g hg).imp_right (fun h => Nat.le_trans KA.out.size h))
  have K1 : Hid (Keeps [q] w w1) := Lib.hid ((KA.out.mono (by simp)).trans k1 (fun g hg => .inl hg))
  have HFR := Lib.hid (fun g hg => Nat.le_trans KA.out.size (hf1 g hg))
  obtain ⟨A5, c5', rfl, -, -, -⟩ := own_shape ho
  clear hp k1 hg1 hr ho hf1 HC c0 c1 c2 c3 c4 c5
  go_wp2_with fail
  go_ret3
  exact ⟨_, s', o, 0, 0, G1, rfl, .gon KD.out HR.out, HO.out, ⟨nl, nc, HP.out, by omega, by omega⟩, K1.out, HFF.out, HFR.out⟩
set_option maxRecDepth 100000 in
set_option maxHeartbeats 3200000 in
theorem mo10_any (w : World) (G : List Nat) (q : Nat) (s : Pl) (nl nc Φ : Nat) (h : QR w G q s nl nc) (hnl : nl ≤ Φ) (hnc : nc + s.li.length ≤ Φ) (hΦ : Φ ≤ 800) (hv : Inv NoR s) (hcp : Cap Φ s) (x : Op) (hx : OkO x) (hxc : x.it.length ≤ x.c) (hz : ∀ W, Keeps [q] w W → AtZ W x.A x.it) (hk : bits .and .i64 x.d 15 = 10) :
    Calls Tryz.prog 9 #[.pointer (some ⟨q, 0, none⟩), .agg #[.int .i64 x.d, .int .i64 x.l, .int .i64 x.i, .int .i64 x.t, .int .i64 x.pd, .slice x.A x.it.length x.c]] w (MoQ w G q s Φ x) := by
  have hf := hv.fit hcp
  have ka : Keeps [] w (w.alloc (.cells #[.int .i64 x.d, .int .i64 x.l, .int .i64 x.i, .int .i64 x.t, .int .i64 x.pd, .slice x.A x.it.length x.c] 34)) := (Keeps.refl _ _).alloc _
  have b0 : Hid (Blk (w.alloc (.cells #[.int .i64 x.d, .int .i64 x.l, .int .i64 x.i, .int .i64 x.t, .int .i64 x.pd, .slice x.A x.it.length x.c] 34)) w.heap.size 34 #[.int .i64 x.d, .int .i64 x.l, .int .i64 x.i, .int .i64 x.t, .int .i64 x.pd, .slice x.A x.it.length x.c]) := Lib.hid (Blk.new w 34 _)
  have hp0 := h.keep0 ka
  have HP0 := Lib.hid hp0
  have KA := Lib.hid ka
  have HX := Lib.hid hx
  have HV := Lib.hid hv
  have HF := Lib.hid hf
  have KD : Hid (dk x = 10) := Lib.hid (by unfold dk; rw [← and_15]; exact hk)
  have HC := Lib.hid (nestQ_any _ G q s nl nc hp0 (by omega) (by omega) hf.id x.t x.pd x.A x.it x.c hxc (hz _ (ka.mono (by simp))))
  obtain ⟨k, hkk⟩ : ∃ k, bits .and .i64 x.d 15 = k := ⟨_, rfl⟩
  clear h hp0 ka hx hf hz hkk hv hcp
  go_enter Tryz.func9, Tryz.ntmps9
  have c0 : (w.alloc (.cells #[.int .i64 x.d, .int .i64 x.l, .int .i64 x.i, .int .i64 x.t, .int .i64 x.pd, .slice x.A x.it.length x.c] 34)).cell? ⟨w.heap.size, 0, none⟩ = some (.int .i64 x.d) := b0.out.cell 0
  have c1 : (w.alloc (.cells #[.int .i64 x.d, .int .i64 x.l, .int .i64 x.i, .int .i64 x.t, .int .i64 x.pd, .slice x.A x.it.length x.c] 34)).cell? ⟨w.heap.size, 1, none⟩ = some (.int .i64 x.l) := b0.out.cell 1
  have c2 : (w.alloc (.cells #[.int .i64 x.d, .int .i64 x.l, .int .i64 x.i, .int .i64 x.t, .int .i64 x.pd, .slice x.A x.it.length x.c] 34)).cell? ⟨w.heap.size, 2, none⟩ = some (.int .i64 x.i) := b0.out.cell 2
  have c3 : (w.alloc (.cells #[.int .i64 x.d, .int .i64 x.l, .int .i64 x.i, .int .i64 x.t, .int .i64 x.pd, .slice x.A x.it.length x.c] 34)).cell? ⟨w.heap.size, 3, none⟩ = some (.int .i64 x.t) := b0.out.cell 3
  have c4 : (w.alloc (.cells #[.int .i64 x.d, .int .i64 x.l, .int .i64 x.i, .int .i64 x.t, .int .i64 x.pd, .slice x.A x.it.length x.c] 34)).cell? ⟨w.heap.size, 4, none⟩ = some (.int .i64 x.pd) := b0.out.cell 4
  have c5 : (w.alloc (.cells #[.int .i64 x.d, .int .i64 x.l, .int .i64 x.i, .int .i64 x.t, .int .i64 x.pd, .slice x.A x.it.length x.c] 34)).cell? ⟨w.heap.size, 5, none⟩ = some (.slice x.A x.it.length x.c) := b0.out.cell 5
  go_wp2_with fail
  refine HC.out.mono ?_
  rintro e w1 ⟨s', n, en, rfl, hr, G1, hp, k1, hg1⟩
  have HP := Lib.hid hp
  have HR := Lib.hid hr
  have HFF : Hid (∀ g ∈ G1, g ∈ G ∨ w.heap.size ≤ g) := Lib.hid (fun g hg => (hg1 g hg).imp_right (fun h => Nat.le_trans KA.out.size h))
  have K1 : Hid (Keeps [q] w w1) := Lib.hid ((KA.out.mono (by simp)).trans k1 (fun g hg => .inl hg))
  have hln : s'.li = s.li := by rcases hr with ⟨-, rfl, -⟩ | ⟨-, -, rfl, -⟩ | ⟨-, -, -, rfl, -⟩ | ⟨-, -, -, -, rfl, -⟩ | ⟨-, -, -, -, -, rfl, -⟩ <;> rfl
  clear hp k1 hg1 hr HC c0 c1 c2 c3 c4 c5
  go_wp2_with fail
  go_ret3
  exact ⟨_, s', [], n, en, G1, rfl, .nes (by have := KD.out; omega) HR.out, World.ownsRow_nil _ _ _ _, ⟨nl + 1, nc, HP.out, by omega, by rw [hln]; omega⟩, K1.out, HFF.out, by simp⟩
set_option maxRecDepth 100000 in
set_option maxHeartbeats 3200000 in
theorem mo11_any (w : World) (G : List Nat) (q : Nat) (s : Pl) (nl nc Φ : Nat) (h : QR w G q s nl nc) (hnl : nl ≤ Φ) (hnc : nc + s.li.length ≤ Φ) (hΦ : Φ ≤ 800) (hv : Inv NoR s) (hcp : Cap Φ s) (x : Op) (hx : OkO x) (hxc : x.it.length ≤ x.c) (hz : ∀ W, Keeps [q] w W → AtZ W x.A x.it) (hk : bits .and .i64 x.d 15 = 11) :
    Calls Tryz.prog 9 #[.pointer (some ⟨q, 0, none⟩), .agg #[.int .i64 x.d, .int .i64 x.l, .int .i64 x.i, .int .i64 x.t, .int .i64 x.pd, .slice x.A x.it.length x.c]] w (MoQ w G q s Φ x) := by
  have hf := hv.fit hcp
  have ka : Keeps [] w (w.alloc (.cells #[.int .i64 x.d, .int .i64 x.l, .int .i64 x.i, .int .i64 x.t, .int .i64 x.pd, .slice x.A x.it.length x.c] 34)) := (Keeps.refl _ _).alloc _
  have b0 : Hid (Blk (w.alloc (.cells #[.int .i64 x.d, .int .i64 x.l, .int .i64 x.i, .int .i64 x.t, .int .i64 x.pd, .slice x.A x.it.length x.c] 34)) w.heap.size 34 #[.int .i64 x.d, .int .i64 x.l, .int .i64 x.i, .int .i64 x.t, .int .i64 x.pd, .slice x.A x.it.length x.c]) := Lib.hid (Blk.new w 34 _)
  have hp0 := h.keep0 ka
  have HP0 := Lib.hid hp0
  have KA := Lib.hid ka
  have HX := Lib.hid hx
  have HV := Lib.hid hv
  have HF := Lib.hid hf
  have KD : Hid (dk x = 11) := Lib.hid (by unfold dk; rw [← and_15]; exact hk)
  have HC := Lib.hid (nestQ_any _ G q s nl nc hp0 (by omega) (by omega) hf.id x.t x.pd x.A x.it x.c hxc (hz _ (ka.mono (by simp))))
  obtain ⟨k, hkk⟩ : ∃ k, bits .and .i64 x.d 15 = k := ⟨_, rfl⟩
  clear h hp0 ka hx hf hz hkk hv hcp
  go_enter Tryz.func9, Tryz.ntmps9
  have c0 : (w.alloc (.cells #[.int .i64 x.d, .int .i64 x.l, .int .i64 x.i, .int .i64 x.t, .int .i64 x.pd, .slice x.A x.it.length x.c] 34)).cell? ⟨w.heap.size, 0, none⟩ = some (.int .i64 x.d) := b0.out.cell 0
  have c1 : (w.alloc (.cells #[.int .i64 x.d, .int .i64 x.l, .int .i64 x.i, .int .i64 x.t, .int .i64 x.pd, .slice x.A x.it.length x.c] 34)).cell? ⟨w.heap.size, 1, none⟩ = some (.int .i64 x.l) := b0.out.cell 1
  have c2 : (w.alloc (.cells #[.int .i64 x.d, .int .i64 x.l, .int .i64 x.i, .int .i64 x.t, .int .i64 x.pd, .slice x.A x.it.length x.c] 34)).cell? ⟨w.heap.size, 2, none⟩ = some (.int .i64 x.i) := b0.out.cell 2
  have c3 : (w.alloc (.cells #[.int .i64 x.d, .int .i64 x.l, .int .i64 x.i, .int .i64 x.t, .int .i64 x.pd, .slice x.A x.it.length x.c] 34)).cell? ⟨w.heap.size, 3, none⟩ = some (.int .i64 x.t) := b0.out.cell 3
  have c4 : (w.alloc (.cells #[.int .i64 x.d, .int .i64 x.l, .int .i64 x.i, .int .i64 x.t, .int .i64 x.pd, .slice x.A x.it.length x.c] 34)).cell? ⟨w.heap.size, 4, none⟩ = some (.int .i64 x.pd) := b0.out.cell 4
  have c5 : (w.alloc (.cells #[.int .i64 x.d, .int .i64 x.l, .int .i64 x.i, .int .i64 x.t, .int .i64 x.pd, .slice x.A x.it.length x.c] 34)).cell? ⟨w.heap.size, 5, none⟩ = some (.slice x.A x.it.length x.c) := b0.out.cell 5
  go_wp2_with fail
  refine HC.out.mono ?_
  rintro e w1 ⟨s', n, en, rfl, hr, G1, hp, k1, hg1⟩
  have HP := Lib.hid hp
  have HR := Lib.hid hr
  have HFF : Hid (∀ g ∈ G1, g ∈ G ∨ w.heap.size ≤ g) := Lib.hid (fun g hg => (hg1 g hg).imp_right (fun h => Nat.le_trans KA.out.size h))
  have K1 : Hid (Keeps [q] w w1) := Lib.hid ((KA.out.mono (by simp)).trans k1 (fun g hg => .inl hg))
  have hln : s'.li = s.li := by rcases hr with ⟨-, rfl, -⟩ | ⟨-, -, rfl, -⟩ | ⟨-, -, -, rfl, -⟩ | ⟨-, -, -, -, rfl, -⟩ | ⟨-, -, -, -, -, rfl, -⟩ <;> rfl
  clear hp k1 hg1 hr HC c0 c1 c2 c3 c4 c5
  go_wp2_with fail
  go_ret3
  exact ⟨_, s', [], n, en, G1, rfl, .nes (by have := KD.out; omega) HR.out, World.ownsRow_nil _ _ _ _, ⟨nl + 1, nc, HP.out, by omega, by rw [hln]; omega⟩, K1.out, HFF.out, by simp⟩
set_option maxRecDepth 100000 in
set_option maxHeartbeats 3200000 in
theorem mo12_any (w : World) (G : List Nat) (q : Nat) (s : Pl) (nl nc Φ : Nat) (h : QR w G q s nl nc) (hnl : nl ≤ Φ) (hnc : nc + s.li.length ≤ Φ) (hΦ : Φ ≤ 800) (hv : Inv NoR s) (hcp : Cap Φ s) (x : Op) (hx : OkO x) (_hxc : x.it.length ≤ x.c) (_hz : ∀ W, Keeps [q] w W → AtZ W x.A x.it) (hk : bits .and .i64 x.d 15 = 12) :
    Calls Tryz.prog 9 #[.pointer (some ⟨q, 0, none⟩), .agg #[.int .i64 x.d, .int .i64 x.l, .int .i64 x.i, .int .i64 x.t, .int .i64 x.pd, .slice x.A x.it.length x.c]] w (MoQ w G q s Φ x) := by
  have hf := hv.fit hcp
  have ka : Keeps [] w (w.alloc (.cells #[.int .i64 x.d, .int .i64 x.l, .int .i64 x.i, .int .i64 x.t, .int .i64 x.pd, .slice x.A x.it.length x.c] 34)) := (Keeps.refl _ _).alloc _
  have b0 : Hid (Blk (w.alloc (.cells #[.int .i64 x.d, .int .i64 x.l, .int .i64 x.i, .int .i64 x.t, .int .i64 x.pd, .slice x.A x.it.length x.c] 34)) w.heap.size 34 #[.int .i64 x.d, .int .i64 x.l, .int .i64 x.i, .int .i64 x.t, .int .i64 x.pd, .slice x.A x.it.length x.c]) := Lib.hid (Blk.new w 34 _)
  have hp0 := h.keep0 ka
  have HP0 := Lib.hid hp0
  have KA := Lib.hid ka
  have HX := Lib.hid hx
  have HV := Lib.hid hv
  have HF := Lib.hid hf
  have KD : Hid (dk x = 12) := Lib.hid (by unfold dk; rw [← and_15]; exact hk)
  have HC := Lib.hid (aheadQ_any _ G q s nl nc hp0 (by omega) (by omega) hf.itl x.l)
  obtain ⟨k, hkk⟩ : ∃ k, bits .and .i64 x.d 15 = k := ⟨_, rfl⟩
  clear h hp0 ka hx hf _hz hkk hv hcp
  cases ha : aheadV s x.l with
  | none =>
    rw [ha] at HC
    have HAV := Lib.hid ha
    clear ha
    go_enter Tryz.func9, Tryz.ntmps9
    have c0 : (w.alloc (.cells #[.int .i64 x.d, .int .i64 x.l, .int .i64 x.i, .int .i64 x.t, .int .i64 x.pd, .slice x.A x.it.length x.c] 34)).cell? ⟨w.heap.size, 0, none⟩ = some (.int .i64 x.d) := b0.out.cell 0
    have c1 : (w.alloc (.cells #[.int .i64 x.d, .int .i64 x.l, .int .i64 x.i, .int .i64 x.t, .int .i64 x.pd, .slice x.A x.it.length x.c] 34)).cell? ⟨w.heap.size, 1, none⟩ = some (.int .i64 x.l) := b0.out.cell 1
    have c2 : (w.alloc (.cells #[.int .i64 x.d, .int .i64 x.l, .int .i64 x.i, .int .i64 x.t, .int .i64 x.pd, .slice x.A x.it.length x.c] 34)).cell? ⟨w.heap.size, 2, none⟩ = some (.int .i64 x.i) := b0.out.cell 2
    have c3 : (w.alloc (.cells #[.int .i64 x.d, .int .i64 x.l, .int .i64 x.i, .int .i64 x.t, .int .i64 x.pd, .slice x.A x.it.length x.c] 34)).cell? ⟨w.heap.size, 3, none⟩ = some (.int .i64 x.t) := b0.out.cell 3
    have c4 : (w.alloc (.cells #[.int .i64 x.d, .int .i64 x.l, .int .i64 x.i, .int .i64 x.t, .int .i64 x.pd, .slice x.A x.it.length x.c] 34)).cell? ⟨w.heap.size, 4, none⟩ = some (.int .i64 x.pd) := b0.out.cell 4
    have c5 : (w.alloc (.cells #[.int .i64 x.d, .int .i64 x.l, .int .i64 x.i, .int .i64 x.t, .int .i64 x.pd, .slice x.A x.it.length x.c] 34)).cell? ⟨w.heap.size, 5, none⟩ = some (.slice x.A x.it.length x.c) := b0.out.cell 5
    go_wp2_with fail
    refine HC.out.mono ?_
    rintro e w1 ⟨rfl, rfl⟩
    clear HC c0 c1 c2 c3 c4 c5
    go_wp2_with fail
    go_ret3
    exact ⟨_, s, [], 0, 4, G, rfl, .ahn (by have := KD.out; omega) HAV.out, World.ownsRow_nil _ _ _ _, ⟨nl, nc, HP0.out, by omega, by omega⟩, KA.out.mono (by simp), fun g hg => .inl hg, by simp⟩
  | some y =>
    rw [ha] at HC
    have HAV := Lib.hid ha
    clear ha
    go_enter Tryz.func9, Tryz.ntmps9
    have c0 : (w.alloc (.cells #[.int .i64 x.d, .int .i64 x.l, .int .i64 x.i, .int .i64 x.t, .int .i64 x.pd, .slice x.A x.it.length x.c] 34)).cell? ⟨w.heap.size, 0, none⟩ = some (.int .i64 x.d) := b0.out.cell 0
    have c1 : (w.alloc (.cells #[.int .i64 x.d, .int .i64 x.l, .int .i64 x.i, .int .i64 x.t, .int .i64 x.pd, .slice x.A x.it.length x.c] 34)).cell? ⟨w.heap.size, 1, none⟩ = some (.int .i64 x.l) := b0.out.cell 1
    have c2 : (w.alloc (.cells #[.int .i64 x.d, .int .i64 x.l, .int .i64 x.i, .int .i64 x.t, .int .i64 x.pd, .slice x.A x.it.length x.c] 34)).cell? ⟨w.heap.size, 2, none⟩ = some (.int .i64 x.i) := b0.out.cell 2
    have c3 : (w.alloc (.cells #[.int .i64 x.d, .int .i64 x.l, .int .i64 x.i, .int .i64 x.t, .int .i64 x.pd, .slice x.A x.it.length x.c] 34)).cell? ⟨w.heap.size, 3, none⟩ = some (.int .i64 x.t) := b0.out.cell 3
    have c4 : (w.alloc (.cells #[.int .i64 x.d, .int .i64 x.l, .int .i64 x.i, .int .i64 x.t, .int .i64 x.pd, .slice x.A x.it.length x.c] 34)).cell? ⟨w.heap.size, 4, none⟩ = some (.int .i64 x.pd) := b0.out.cell 4
    have c5 : (w.alloc (.cells #[.int .i64 x.d, .int .i64 x.l, .int .i64 x.i, .int .i64 x.t, .int .i64 x.pd, .slice x.A x.it.length x.c] 34)).cell? ⟨w.heap.size, 5, none⟩ = some (.slice x.A x.it.length x.c) := b0.out.cell 5
    go_wp2_with fail
    refine HC.out.mono ?_
    rintro e w1 ⟨rfl, rfl⟩
    have HB := Lib.hid (beganQ_any _ G q s nl nc HP0.out (by omega) (by omega) HF.out.itl _ (by have := HF.out.cp.choose_spec.2; omega) HF.out.cp.choose_spec.1 x.l y x.t)
    go_wp2_with fail
    refine HB.out.mono ?_
    rintro e w1 ⟨rfl, ⟨G1, hp, k1, hg1⟩, hln⟩
    have HP := Lib.hid hp
    have HFF : Hid (∀ g ∈ G1, g ∈ G ∨ w.heap.size ≤ g) := Lib.hid (fun g hg => (hg1 g hg).imp_right (fun h => Nat.le_trans KA.out.size h))
    have K1 : Hid (Keeps [q] w w1) := Lib.hid ((KA.out.mono (by simp)).trans k1 (fun g hg => .inl hg))
    clear hp k1 hg1 HC HB c0 c1 c2 c3 c4 c5
    go_wp2_with fail
    go_ret3
    exact ⟨_, _, [], y, _, G1, rfl, .ahb (by have := KD.out; omega) HAV.out, World.ownsRow_nil _ _ _ _, ⟨nl, nc + 1, HP.out, by omega, by omega⟩, K1.out, HFF.out, by simp⟩
set_option maxRecDepth 100000 in
set_option maxHeartbeats 3200000 in
theorem mo13_any (w : World) (G : List Nat) (q : Nat) (s : Pl) (nl nc Φ : Nat) (h : QR w G q s nl nc) (hnl : nl ≤ Φ) (hnc : nc + s.li.length ≤ Φ) (hΦ : Φ ≤ 800) (hv : Inv NoR s) (hcp : Cap Φ s) (x : Op) (hx : OkO x) (_hxc : x.it.length ≤ x.c) (_hz : ∀ W, Keeps [q] w W → AtZ W x.A x.it) (hk : bits .and .i64 x.d 15 = 13) :
    Calls Tryz.prog 9 #[.pointer (some ⟨q, 0, none⟩), .agg #[.int .i64 x.d, .int .i64 x.l, .int .i64 x.i, .int .i64 x.t, .int .i64 x.pd, .slice x.A x.it.length x.c]] w (MoQ w G q s Φ x) := by
  have hf := hv.fit hcp
  have ka : Keeps [] w (w.alloc (.cells #[.int .i64 x.d, .int .i64 x.l, .int .i64 x.i, .int .i64 x.t, .int .i64 x.pd, .slice x.A x.it.length x.c] 34)) := (Keeps.refl _ _).alloc _
  have b0 : Hid (Blk (w.alloc (.cells #[.int .i64 x.d, .int .i64 x.l, .int .i64 x.i, .int .i64 x.t, .int .i64 x.pd, .slice x.A x.it.length x.c] 34)) w.heap.size 34 #[.int .i64 x.d, .int .i64 x.l, .int .i64 x.i, .int .i64 x.t, .int .i64 x.pd, .slice x.A x.it.length x.c]) := Lib.hid (Blk.new w 34 _)
  have hp0 := h.keep0 ka
  have HP0 := Lib.hid hp0
  have KA := Lib.hid ka
  have HX := Lib.hid hx
  have HV := Lib.hid hv
  have HF := Lib.hid hf
  have KD : Hid (dk x = 13) := Lib.hid (by unfold dk; rw [← and_15]; exact hk)
  have HC := Lib.hid (aheadQ_any _ G q s nl nc hp0 (by omega) (by omega) hf.itl x.l)
  obtain ⟨k, hkk⟩ : ∃ k, bits .and .i64 x.d 15 = k := ⟨_, rfl⟩
  clear h hp0 ka hx hf _hz hkk hv hcp
  cases ha : aheadV s x.l with
  | none =>
    rw [ha] at HC
    have HAV := Lib.hid ha
    clear ha
    go_enter Tryz.func9, Tryz.ntmps9
    have c0 : (w.alloc (.cells #[.int .i64 x.d, .int .i64 x.l, .int .i64 x.i, .int .i64 x.t, .int .i64 x.pd, .slice x.A x.it.length x.c] 34)).cell? ⟨w.heap.size, 0, none⟩ = some (.int .i64 x.d) := b0.out.cell 0
    have c1 : (w.alloc (.cells #[.int .i64 x.d, .int .i64 x.l, .int .i64 x.i, .int .i64 x.t, .int .i64 x.pd, .slice x.A x.it.length x.c] 34)).cell? ⟨w.heap.size, 1, none⟩ = some (.int .i64 x.l) := b0.out.cell 1
    have c2 : (w.alloc (.cells #[.int .i64 x.d, .int .i64 x.l, .int .i64 x.i, .int .i64 x.t, .int .i64 x.pd, .slice x.A x.it.length x.c] 34)).cell? ⟨w.heap.size, 2, none⟩ = some (.int .i64 x.i) := b0.out.cell 2
    have c3 : (w.alloc (.cells #[.int .i64 x.d, .int .i64 x.l, .int .i64 x.i, .int .i64 x.t, .int .i64 x.pd, .slice x.A x.it.length x.c] 34)).cell? ⟨w.heap.size, 3, none⟩ = some (.int .i64 x.t) := b0.out.cell 3
    have c4 : (w.alloc (.cells #[.int .i64 x.d, .int .i64 x.l, .int .i64 x.i, .int .i64 x.t, .int .i64 x.pd, .slice x.A x.it.length x.c] 34)).cell? ⟨w.heap.size, 4, none⟩ = some (.int .i64 x.pd) := b0.out.cell 4
    have c5 : (w.alloc (.cells #[.int .i64 x.d, .int .i64 x.l, .int .i64 x.i, .int .i64 x.t, .int .i64 x.pd, .slice x.A x.it.length x.c] 34)).cell? ⟨w.heap.size, 5, none⟩ = some (.slice x.A x.it.length x.c) := b0.out.cell 5
    go_wp2_with fail
    refine HC.out.mono ?_
    rintro e w1 ⟨rfl, rfl⟩
    clear HC c0 c1 c2 c3 c4 c5
    go_wp2_with fail
    go_ret3
    exact ⟨_, s, [], 0, 4, G, rfl, .ahn (by have := KD.out; omega) HAV.out, World.ownsRow_nil _ _ _ _, ⟨nl, nc, HP0.out, by omega, by omega⟩, KA.out.mono (by simp), fun g hg => .inl hg, by simp⟩
  | some y =>
    rw [ha] at HC
    have HAV := Lib.hid ha
    clear ha
    go_enter Tryz.func9, Tryz.ntmps9
    have c0 : (w.alloc (.cells #[.int .i64 x.d, .int .i64 x.l, .int .i64 x.i, .int .i64 x.t, .int .i64 x.pd, .slice x.A x.it.length x.c] 34)).cell? ⟨w.heap.size, 0, none⟩ = some (.int .i64 x.d) := b0.out.cell 0
    have c1 : (w.alloc (.cells #[.int .i64 x.d, .int .i64 x.l, .int .i64 x.i, .int .i64 x.t, .int .i64 x.pd, .slice x.A x.it.length x.c] 34)).cell? ⟨w.heap.size, 1, none⟩ = some (.int .i64 x.l) := b0.out.cell 1
    have c2 : (w.alloc (.cells #[.int .i64 x.d, .int .i64 x.l, .int .i64 x.i, .int .i64 x.t, .int .i64 x.pd, .slice x.A x.it.length x.c] 34)).cell? ⟨w.heap.size, 2, none⟩ = some (.int .i64 x.i) := b0.out.cell 2
    have c3 : (w.alloc (.cells #[.int .i64 x.d, .int .i64 x.l, .int .i64 x.i, .int .i64 x.t, .int .i64 x.pd, .slice x.A x.it.length x.c] 34)).cell? ⟨w.heap.size, 3, none⟩ = some (.int .i64 x.t) := b0.out.cell 3
    have c4 : (w.alloc (.cells #[.int .i64 x.d, .int .i64 x.l, .int .i64 x.i, .int .i64 x.t, .int .i64 x.pd, .slice x.A x.it.length x.c] 34)).cell? ⟨w.heap.size, 4, none⟩ = some (.int .i64 x.pd) := b0.out.cell 4
    have c5 : (w.alloc (.cells #[.int .i64 x.d, .int .i64 x.l, .int .i64 x.i, .int .i64 x.t, .int .i64 x.pd, .slice x.A x.it.length x.c] 34)).cell? ⟨w.heap.size, 5, none⟩ = some (.slice x.A x.it.length x.c) := b0.out.cell 5
    go_wp2_with fail
    refine HC.out.mono ?_
    rintro e w1 ⟨rfl, rfl⟩
    have HB := Lib.hid (beganQ_any _ G q s nl nc HP0.out (by omega) (by omega) HF.out.itl _ (by have := HF.out.cp.choose_spec.2; omega) HF.out.cp.choose_spec.1 x.l y x.t)
    go_wp2_with fail
    refine HB.out.mono ?_
    rintro e w1 ⟨rfl, ⟨G1, hp, k1, hg1⟩, hln⟩
    have HP := Lib.hid hp
    have HFF : Hid (∀ g ∈ G1, g ∈ G ∨ w.heap.size ≤ g) := Lib.hid (fun g hg => (hg1 g hg).imp_right (fun h => Nat.le_trans KA.out.size h))
    have K1 : Hid (Keeps [q] w w1) := Lib.hid ((KA.out.mono (by simp)).trans k1 (fun g hg => .inl hg))
    clear hp k1 hg1 HC HB c0 c1 c2 c3 c4 c5
    go_wp2_with fail
    go_ret3
    exact ⟨_, _, [], y, _, G1, rfl, .ahb (by have := KD.out; omega) HAV.out, World.ownsRow_nil _ _ _ _, ⟨nl, nc + 1, HP.out, by omega, by omega⟩, K1.out, HFF.out, by simp⟩
set_option maxRecDepth 100000 in
set_option maxHeartbeats 3200000 in
theorem mo14_any (w : World) (G : List Nat) (q : Nat) (s : Pl) (nl nc Φ : Nat) (h : QR w G q s nl nc) (hnl : nl ≤ Φ) (hnc : nc + s.li.length ≤ Φ) (hΦ : Φ ≤ 800) (hv : Inv NoR s) (hcp : Cap Φ s) (x : Op) (hx : OkO x) (_hxc : x.it.length ≤ x.c) (_hz : ∀ W, Keeps [q] w W → AtZ W x.A x.it) (hk : bits .and .i64 x.d 15 = 14) :
    Calls Tryz.prog 9 #[.pointer (some ⟨q, 0, none⟩), .agg #[.int .i64 x.d, .int .i64 x.l, .int .i64 x.i, .int .i64 x.t, .int .i64 x.pd, .slice x.A x.it.length x.c]] w (MoQ w G q s Φ x) := by
  have hf := hv.fit hcp
  have ka : Keeps [] w (w.alloc (.cells #[.int .i64 x.d, .int .i64 x.l, .int .i64 x.i, .int .i64 x.t, .int .i64 x.pd, .slice x.A x.it.length x.c] 34)) := (Keeps.refl _ _).alloc _
  have b0 : Hid (Blk (w.alloc (.cells #[.int .i64 x.d, .int .i64 x.l, .int .i64 x.i, .int .i64 x.t, .int .i64 x.pd, .slice x.A x.it.length x.c] 34)) w.heap.size 34 #[.int .i64 x.d, .int .i64 x.l, .int .i64 x.i, .int .i64 x.t, .int .i64 x.pd, .slice x.A x.it.length x.c]) := Lib.hid (Blk.new w 34 _)
  have hp0 := h.keep0 ka
  have HP0 := Lib.hid hp0
  have KA := Lib.hid ka
  have HX := Lib.hid hx
  have HV := Lib.hid hv
  have HF := Lib.hid hf
  have KD : Hid (dk x = 14) := Lib.hid (by unfold dk; rw [← and_15]; exact hk)
  have HC := Lib.hid (aheadQ_any _ G q s nl nc hp0 (by omega) (by omega) hf.itl x.l)
  obtain ⟨k, hkk⟩ : ∃ k, bits .and .i64 x.d 15 = k := ⟨_, rfl⟩
  clear h hp0 ka hx hf _hz hkk hv hcp
  cases ha : aheadV s x.l with
  | none =>
    rw [ha] at HC
    have HAV := Lib.hid ha
    clear ha
    go_enter Tryz.func9, Tryz.ntmps9
    have c0 : (w.alloc (.cells #[.int .i64 x.d, .int .i64 x.l, .int .i64 x.i, .int .i64 x.t, .int .i64 x.pd, .slice x.A x.it.length x.c] 34)).cell? ⟨w.heap.size, 0, none⟩ = some (.int .i64 x.d) := b0.out.cell 0
    have c1 : (w.alloc (.cells #[.int .i64 x.d, .int .i64 x.l, .int .i64 x.i, .int .i64 x.t, .int .i64 x.pd, .slice x.A x.it.length x.c] 34)).cell? ⟨w.heap.size, 1, none⟩ = some (.int .i64 x.l) := b0.out.cell 1
    have c2 : (w.alloc (.cells #[.int .i64 x.d, .int .i64 x.l, .int .i64 x.i, .int .i64 x.t, .int .i64 x.pd, .slice x.A x.it.length x.c] 34)).cell? ⟨w.heap.size, 2, none⟩ = some (.int .i64 x.i) := b0.out.cell 2
    have c3 : (w.alloc (.cells #[.int .i64 x.d, .int .i64 x.l, .int .i64 x.i, .int .i64 x.t, .int .i64 x.pd, .slice x.A x.it.length x.c] 34)).cell? ⟨w.heap.size, 3, none⟩ = some (.int .i64 x.t) := b0.out.cell 3
    have c4 : (w.alloc (.cells #[.int .i64 x.d, .int .i64 x.l, .int .i64 x.i, .int .i64 x.t, .int .i64 x.pd, .slice x.A x.it.length x.c] 34)).cell? ⟨w.heap.size, 4, none⟩ = some (.int .i64 x.pd) := b0.out.cell 4
    have c5 : (w.alloc (.cells #[.int .i64 x.d, .int .i64 x.l, .int .i64 x.i, .int .i64 x.t, .int .i64 x.pd, .slice x.A x.it.length x.c] 34)).cell? ⟨w.heap.size, 5, none⟩ = some (.slice x.A x.it.length x.c) := b0.out.cell 5
    go_wp2_with fail
    refine HC.out.mono ?_
    rintro e w1 ⟨rfl, rfl⟩
    clear HC c0 c1 c2 c3 c4 c5
    go_wp2_with fail
    go_ret3
    exact ⟨_, s, [], 0, 4, G, rfl, .ahn (by have := KD.out; omega) HAV.out, World.ownsRow_nil _ _ _ _, ⟨nl, nc, HP0.out, by omega, by omega⟩, KA.out.mono (by simp), fun g hg => .inl hg, by simp⟩
  | some y =>
    rw [ha] at HC
    have HAV := Lib.hid ha
    clear ha
    go_enter Tryz.func9, Tryz.ntmps9
    have c0 : (w.alloc (.cells #[.int .i64 x.d, .int .i64 x.l, .int .i64 x.i, .int .i64 x.t, .int .i64 x.pd, .slice x.A x.it.length x.c] 34)).cell? ⟨w.heap.size, 0, none⟩ = some (.int .i64 x.d) := b0.out.cell 0
    have c1 : (w.alloc (.cells #[.int .i64 x.d, .int .i64 x.l, .int .i64 x.i, .int .i64 x.t, .int .i64 x.pd, .slice x.A x.it.length x.c] 34)).cell? ⟨w.heap.size, 1, none⟩ = some (.int .i64 x.l) := b0.out.cell 1
    have c2 : (w.alloc (.cells #[.int .i64 x.d, .int .i64 x.l, .int .i64 x.i, .int .i64 x.t, .int .i64 x.pd, .slice x.A x.it.length x.c] 34)).cell? ⟨w.heap.size, 2, none⟩ = some (.int .i64 x.i) := b0.out.cell 2
    have c3 : (w.alloc (.cells #[.int .i64 x.d, .int .i64 x.l, .int .i64 x.i, .int .i64 x.t, .int .i64 x.pd, .slice x.A x.it.length x.c] 34)).cell? ⟨w.heap.size, 3, none⟩ = some (.int .i64 x.t) := b0.out.cell 3
    have c4 : (w.alloc (.cells #[.int .i64 x.d, .int .i64 x.l, .int .i64 x.i, .int .i64 x.t, .int .i64 x.pd, .slice x.A x.it.length x.c] 34)).cell? ⟨w.heap.size, 4, none⟩ = some (.int .i64 x.pd) := b0.out.cell 4
    have c5 : (w.alloc (.cells #[.int .i64 x.d, .int .i64 x.l, .int .i64 x.i, .int .i64 x.t, .int .i64 x.pd, .slice x.A x.it.length x.c] 34)).cell? ⟨w.heap.size, 5, none⟩ = some (.slice x.A x.it.length x.c) := b0.out.cell 5
    go_wp2_with fail
    refine HC.out.mono ?_
    rintro e w1 ⟨rfl, rfl⟩
    have HB := Lib.hid (beganQ_any _ G q s nl nc HP0.out (by omega) (by omega) HF.out.itl _ (by have := HF.out.cp.choose_spec.2; omega) HF.out.cp.choose_spec.1 x.l y x.t)
    go_wp2_with fail
    refine HB.out.mono ?_
    rintro e w1 ⟨rfl, ⟨G1, hp, k1, hg1⟩, hln⟩
    have HP := Lib.hid hp
    have HFF : Hid (∀ g ∈ G1, g ∈ G ∨ w.heap.size ≤ g) := Lib.hid (fun g hg => (hg1 g hg).imp_right (fun h => Nat.le_trans KA.out.size h))
    have K1 : Hid (Keeps [q] w w1) := Lib.hid ((KA.out.mono (by simp)).trans k1 (fun g hg => .inl hg))
    clear hp k1 hg1 HC HB c0 c1 c2 c3 c4 c5
    go_wp2_with fail
    go_ret3
    exact ⟨_, _, [], y, _, G1, rfl, .ahb (by have := KD.out; omega) HAV.out, World.ownsRow_nil _ _ _ _, ⟨nl, nc + 1, HP.out, by omega, by omega⟩, K1.out, HFF.out, by simp⟩
set_option maxRecDepth 100000 in
set_option maxHeartbeats 3200000 in
theorem mo15_any (w : World) (G : List Nat) (q : Nat) (s : Pl) (nl nc Φ : Nat) (h : QR w G q s nl nc) (hnl : nl ≤ Φ) (hnc : nc + s.li.length ≤ Φ) (hΦ : Φ ≤ 800) (hv : Inv NoR s) (hcp : Cap Φ s) (x : Op) (hx : OkO x) (_hxc : x.it.length ≤ x.c) (_hz : ∀ W, Keeps [q] w W → AtZ W x.A x.it) (hk : bits .and .i64 x.d 15 = 15) :
    Calls Tryz.prog 9 #[.pointer (some ⟨q, 0, none⟩), .agg #[.int .i64 x.d, .int .i64 x.l, .int .i64 x.i, .int .i64 x.t, .int .i64 x.pd, .slice x.A x.it.length x.c]] w (MoQ w G q s Φ x) := by
  have hf := hv.fit hcp
  have ka : Keeps [] w (w.alloc (.cells #[.int .i64 x.d, .int .i64 x.l, .int .i64 x.i, .int .i64 x.t, .int .i64 x.pd, .slice x.A x.it.length x.c] 34)) := (Keeps.refl _ _).alloc _
  have b0 : Hid (Blk (w.alloc (.cells #[.int .i64 x.d, .int .i64 x.l, .int .i64 x.i, .int .i64 x.t, .int .i64 x.pd, .slice x.A x.it.length x.c] 34)) w.heap.size 34 #[.int .i64 x.d, .int .i64 x.l, .int .i64 x.i, .int .i64 x.t, .int .i64 x.pd, .slice x.A x.it.length x.c]) := Lib.hid (Blk.new w 34 _)
  have hp0 := h.keep0 ka
  have HP0 := Lib.hid hp0
  have KA := Lib.hid ka
  have HX := Lib.hid hx
  have HV := Lib.hid hv
  have HF := Lib.hid hf
  have KD : Hid (dk x = 15) := Lib.hid (by unfold dk; rw [← and_15]; exact hk)
  have HC := Lib.hid (aheadQ_any _ G q s nl nc hp0 (by omega) (by omega) hf.itl x.l)
  obtain ⟨k, hkk⟩ : ∃ k, bits .and .i64 x.d 15 = k := ⟨_, rfl⟩
  clear h hp0 ka hx hf _hz hkk hv hcp
  cases ha : aheadV s x.l with
  | none =>
    rw [ha] at HC
    have HAV := Lib.hid ha
    clear ha
    go_enter Tryz.func9, Tryz.ntmps9
    have c0 : (w.alloc (.cells #[.int .i64 x.d, .int .i64 x.l, .int .i64 x.i, .int .i64 x.t, .int .i64 x.pd, .slice x.A x.it.length x.c] 34)).cell? ⟨w.heap.size, 0, none⟩ = some (.int .i64 x.d) := b0.out.cell 0
    have c1 : (w.alloc (.cells #[.int .i64 x.d, .int .i64 x.l, .int .i64 x.i, .int .i64 x.t, .int .i64 x.pd, .slice x.A x.it.length x.c] 34)).cell? ⟨w.heap.size, 1, none⟩ = some (.int .i64 x.l) := b0.out.cell 1
    have c2 : (w.alloc (.cells #[.int .i64 x.d, .int .i64 x.l, .int .i64 x.i, .int .i64 x.t, .int .i64 x.pd, .slice x.A x.it.length x.c] 34)).cell? ⟨w.heap.size, 2, none⟩ = some (.int .i64 x.i) := b0.out.cell 2
    have c3 : (w.alloc (.cells #[.int .i64 x.d, .int .i64 x.l, .int .i64 x.i, .int .i64 x.t, .int .i64 x.pd, .slice x.A x.it.length x.c] 34)).cell? ⟨w.heap.size, 3, none⟩ = some (.int .i64 x.t) := b0.out.cell 3
    have c4 : (w.alloc (.cells #[.int .i64 x.d, .int .i64 x.l, .int .i64 x.i, .int .i64 x.t, .int .i64 x.pd, .slice x.A x.it.length x.c] 34)).cell? ⟨w.heap.size, 4, none⟩ = some (.int .i64 x.pd) := b0.out.cell 4
    have c5 : (w.alloc (.cells #[.int .i64 x.d, .int .i64 x.l, .int .i64 x.i, .int .i64 x.t, .int .i64 x.pd, .slice x.A x.it.length x.c] 34)).cell? ⟨w.heap.size, 5, none⟩ = some (.slice x.A x.it.length x.c) := b0.out.cell 5
    go_wp2_with fail
    refine HC.out.mono ?_
    rintro e w1 ⟨rfl, rfl⟩
    clear HC c0 c1 c2 c3 c4 c5
    go_wp2_with fail
    go_ret3
    exact ⟨_, s, [], 0, 4, G, rfl, .ahn (by have := KD.out; omega) HAV.out, World.ownsRow_nil _ _ _ _, ⟨nl, nc, HP0.out, by omega, by omega⟩, KA.out.mono (by simp), fun g hg => .inl hg, by simp⟩
  | some y =>
    rw [ha] at HC
    have HAV := Lib.hid ha
    clear ha
    go_enter Tryz.func9, Tryz.ntmps9
    have c0 : (w.alloc (.cells #[.int .i64 x.d, .int .i64 x.l, .int .i64 x.i, .int .i64 x.t, .int .i64 x.pd, .slice x.A x.it.length x.c] 34)).cell? ⟨w.heap.size, 0, none⟩ = some (.int .i64 x.d) := b0.out.cell 0
    have c1 : (w.alloc (.cells #[.int .i64 x.d, .int .i64 x.l, .int .i64 x.i, .int .i64 x.t, .int .i64 x.pd, .slice x.A x.it.length x.c] 34)).cell? ⟨w.heap.size, 1, none⟩ = some (.int .i64 x.l) := b0.out.cell 1
    have c2 : (w.alloc (.cells #[.int .i64 x.d, .int .i64 x.l, .int .i64 x.i, .int .i64 x.t, .int .i64 x.pd, .slice x.A x.it.length x.c] 34)).cell? ⟨w.heap.size, 2, none⟩ = some (.int .i64 x.i) := b0.out.cell 2
    have c3 : (w.alloc (.cells #[.int .i64 x.d, .int .i64 x.l, .int .i64 x.i, .int .i64 x.t, .int .i64 x.pd, .slice x.A x.it.length x.c] 34)).cell? ⟨w.heap.size, 3, none⟩ = some (.int .i64 x.t) := b0.out.cell 3
    have c4 : (w.alloc (.cells #[.int .i64 x.d, .int .i64 x.l, .int .i64 x.i, .int .i64 x.t, .int .i64 x.pd, .slice x.A x.it.length x.c] 34)).cell? ⟨w.heap.size, 4, none⟩ = some (.int .i64 x.pd) := b0.out.cell 4
    have c5 : (w.alloc (.cells #[.int .i64 x.d, .int .i64 x.l, .int .i64 x.i, .int .i64 x.t, .int .i64 x.pd, .slice x.A x.it.length x.c] 34)).cell? ⟨w.heap.size, 5, none⟩ = some (.slice x.A x.it.length x.c) := b0.out.cell 5
    go_wp2_with fail
    refine HC.out.mono ?_
    rintro e w1 ⟨rfl, rfl⟩
    have HB := Lib.hid (beganQ_any _ G q s nl nc HP0.out (by omega) (by omega) HF.out.itl _ (by have := HF.out.cp.choose_spec.2; omega) HF.out.cp.choose_spec.1 x.l y x.t)
    go_wp2_with fail
    refine HB.out.mono ?_
    rintro e w1 ⟨rfl, ⟨G1, hp, k1, hg1⟩, hln⟩
    have HP := Lib.hid hp
    have HFF : Hid (∀ g ∈ G1, g ∈ G ∨ w.heap.size ≤ g) := Lib.hid (fun g hg => (hg1 g hg).imp_right (fun h => Nat.le_trans KA.out.size h))
    have K1 : Hid (Keeps [q] w w1) := Lib.hid ((KA.out.mono (by simp)).trans k1 (fun g hg => .inl hg))
    clear hp k1 hg1 HC HB c0 c1 c2 c3 c4 c5
    go_wp2_with fail
    go_ret3
    exact ⟨_, _, [], y, _, G1, rfl, .ahb (by have := KD.out; omega) HAV.out, World.ownsRow_nil _ _ _ _, ⟨nl, nc + 1, HP.out, by omega, by omega⟩, K1.out, HFF.out, by simp⟩
theorem model_any (w : World) (G : List Nat) (q : Nat) (s : Pl) (Φ : Nat) (h : QP w G q s Φ) (hΦ : Φ ≤ 800) (hv : Inv NoR s) (hc : Cap Φ s) (x : Op) (hx : OkO x) (hxc : x.it.length ≤ x.c) (hz : ∀ W, Keeps [q] w W → AtZ W x.A x.it) :
    Calls Tryz.prog 9 #[.pointer (some ⟨q, 0, none⟩), .agg #[.int .i64 x.d, .int .i64 x.l, .int .i64 x.i, .int .i64 x.t, .int .i64 x.pd, .slice x.A x.it.length x.c]] w (MoQ w G q s Φ x) := by
  obtain ⟨nl, nc, h, h1, h2⟩ := h
  have e := and_15 x.d
  have h0 : 0 ≤ x.d % 16 := Int.emod_nonneg _ (by omega)
  have h3 : x.d % 16 < 16 := Int.emod_lt_of_pos _ (by omega)
  obtain ⟨k, hk⟩ : ∃ k, x.d % 16 = k := ⟨_, rfl⟩
  rw [hk] at e h0 h3
  have hcs : k = 0 ∨ k = 1 ∨ k = 2 ∨ k = 3 ∨ k = 4 ∨ k = 5 ∨ k = 6 ∨ k = 7 ∨ k = 8 ∨ k = 9 ∨ k = 10 ∨ k = 11 ∨ k = 12 ∨ k = 13 ∨ k = 14 ∨ k = 15 := by omega
  rcases hcs with rfl | rfl | rfl | rfl | rfl | rfl | rfl | rfl | rfl | rfl | rfl | rfl | rfl | rfl | rfl | rfl
  · exact mo0_any w G q s nl nc Φ h h1 h2 hΦ hv hc x hx hxc hz e
  · exact mo1_any w G q s nl nc Φ h h1 h2 hΦ hv hc x hx hxc hz e
  · exact mo2_any w G q s nl nc Φ h h1 h2 hΦ hv hc x hx hxc hz e
  · exact mo3_any w G q s nl nc Φ h h1 h2 hΦ hv hc x hx hxc hz e
  · exact mo4_any w G q s nl nc Φ h h1 h2 hΦ hv hc x hx hxc hz e
  · exact mo5_any w G q s nl nc Φ h h1 h2 hΦ hv hc x hx hxc hz e
  · exact mo6_any w G q s nl nc Φ h h1 h2 hΦ hv hc x hx hxc hz e
  · exact mo7_any w G q s nl nc Φ h h1 h2 hΦ hv hc x hx hxc hz e
  · exact mo8_any w G q s nl nc Φ h h1 h2 hΦ hv hc x hx hxc hz e
  · exact mo9_any w G q s nl nc Φ h h1 h2 hΦ hv hc x hx hxc hz e
  · exact mo10_any w G q s nl nc Φ h h1 h2 hΦ hv hc x hx hxc hz e
  · exact mo11_any w G q s nl nc Φ h h1 h2 hΦ hv hc x hx hxc hz e
  · exact mo12_any w G q s nl nc Φ h h1 h2 hΦ hv hc x hx hxc hz e
  · exact mo13_any w G q s nl nc Φ h h1 h2 hΦ hv hc x hx hxc hz e
  · exact mo14_any w G q s nl nc Φ h h1 h2 hΦ hv hc x hx hxc hz e
  · exact mo15_any w G q s nl nc Φ h h1 h2 hΦ hv hc x hx hxc hz e
end Go.Proofs.YtcopjjokhjealaaGreat
