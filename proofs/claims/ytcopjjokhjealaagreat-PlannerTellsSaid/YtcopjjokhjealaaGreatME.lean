/- Texts of the elder seat, turned to this one: W46. -/
import Derived.Test.YtcopjjokhjealaaGreatMD
import Derived.Test.YtcopjjokhjealaaGreatBits
namespace Go.Proofs.YtcopjjokhjealaaGreat
open Go.RowKit

theorem and_15 (n : Int) : bits .and .i64 n 15 = n % 16 := and_mask n 4 (by omega)
/-- The operation's numbers are in range. -/
structure OkO (x : Op) : Prop where
  l1 : -9223372036854775808 ≤ x.l
  l2 : x.l ≤ 9223372036854775807
  i1 : -9223372036854775808 ≤ x.i
  i2 : x.i ≤ 9223372036854775807
  it : ∀ y ∈ x.it, -9223372036854775808 ≤ y ∧ y ≤ 9223372036854775807
  n : x.it.length ≤ 1000
/-- What do's contract says. -/
def DoQ (w : World) (F : List Nat) (p : Nat) (s : Pl) (Φ : Nat) (x : Op) (e : Ending) (w' : World) : Prop :=
  ∃ v s' o n en F', e = .returned (.tuple #[v, .int .i64 n, .int .i64 en]) ∧ DoR x s s' o n en ∧ w'.ownsRow 0 3 1 v o.length (zs o) ∧ PR w' F' p s' (Φ + 2) ∧ Keeps F w w' ∧ (∀ g ∈ F', g ∈ F ∨ w.heap.size ≤ g) ∧ ∀ g ∈ fp v, w.heap.size ≤ g
/-- What the contracts need of the planner. -/
structure Fit (s : Pl) (Φ : Nat) : Prop where
  ks : ∀ x n, s.ln x = some n → kI.ok x
  id : ∀ x n, s.ln x = some n → 0 ≤ x ∧ x < 32
  kr : ∀ r ∈ s.li, kP.ok (r.l, r.i)
  hl : ∀ r ∈ s.li, ∃ n, s.ln r.l = some n ∧ n.it ≠ []
  itl : ∀ x n, s.ln x = some n → n.it.length ≤ 1000
  cp : ∃ M, CapM M s.ct ∧ M + s.li.length ≤ Φ
theorem rightB_ok : ∀ {L : List Int} {f : Int → Bool}, rightB f L = true → (∀ x ∈ L, 1 ≤ x ∧ x ≤ 1099511627776) ∧ (∀ x ∈ L, f x = false) ∧ L.Nodup
  | [], _, _ => ⟨by simp, by simp, List.Pairwise.nil⟩
  | y :: L, f, h => by
    unfold rightB at h
    simp only [Bool.and_eq_true] at h
    obtain ⟨⟨h1, h2⟩, h3⟩ := h
    obtain ⟨g1, g2, g3⟩ := rightB_ok h3
    unfold okN at h1
    simp at h1 h2
    refine ⟨fun x hx => ?_, fun x hx => ?_, List.nodup_cons.2 ⟨fun hy => ?_, g3⟩⟩
    · rcases List.mem_cons.1 hx with rfl | hx
      · exact h1
      · exact g1 x hx
    · rcases List.mem_cons.1 hx with rfl | hx
      · exact h2
      · have := g2 x hx
        by_cases e : x = y
        · rw [if_pos e] at this; cases this
        · rw [if_neg e] at this; exact this
    · have := g2 y hy
      rw [if_pos rfl] at this
      cases this
theorem rightL_ok {L : List Int} (h : rightL L = true) : (∀ x ∈ L, 1 ≤ x ∧ x ≤ 1099511627776) ∧ L.Nodup ∧ L.length ≤ 500 := by
  unfold rightL at h
  simp only [Bool.and_eq_true, decide_eq_true_eq] at h
  obtain ⟨g1, -, g3⟩ := rightB_ok h.1
  exact ⟨g1, g3, h.2⟩
theorem Inv.fit {s : Pl} {Φ : Nat} (hv : Inv NoR s) (hc : Cap Φ s) : Fit s Φ := by
  have c := hv.c
  refine ⟨fun x n hx => ?_, c.id, fun r hr => ?_, fun r hr => ?_, fun x n hx => ?_, hc⟩
  · have := c.id x n hx
    exact kI_ok (by omega) (by omega)
  · obtain ⟨⟨n, h1, h2⟩, -⟩ := c.hm r hr
    have h2 := h2.resolve_left (fun h => h)
    have a := c.id _ _ h1
    have b := (rightL_ok (c.it _ _ h1)).1 _ h2
    exact kP_ok (by dsimp only; omega) (by dsimp only; omega) (by dsimp only; omega) (by dsimp only; omega)
  · obtain ⟨⟨n, h1, h2⟩, -⟩ := c.hm r hr
    have h2 := h2.resolve_left (fun h => h)
    exact ⟨n, h1, fun e => by rw [e] at h2; cases h2⟩
  · have := (rightL_ok (c.it _ _ hx)).2.2
    omega
theorem PR.li {w : World} {F : List Nat} {p : Nat} {s : Pl} {Φ : Nat} (h : PR w F p s Φ) : s.li.length ≤ Φ := by
  obtain ⟨lm, cm, nl, nc, A, c, f, h, h1, h2⟩ := h
  omega
theorem finished_pr (w : World) (F : List Nat) (p : Nat) (s : Pl) (Φ : Nat) (h : PR w F p s Φ) (hΦ : Φ ≤ 800) (l i : Int) :
    Calls Tryz.prog 18 #[.pointer (some ⟨p, 0, none⟩), .int .i64 l, .int .i64 i] w fun e w' => e = .returned (.int .i64 (finE s l i)) ∧ PR w' F p (finS s l i) Φ ∧ Keeps F w w' := by
  have hl := h.li
  obtain ⟨lm, cm, nl, nc, A, c, f, h, h1, h2⟩ := h
  refine (finished_any w F p s lm cm nl nc A c f h (by omega) l i).mono ?_
  rintro e w' ⟨he, hp, hk⟩
  refine ⟨he, ⟨lm, cm, nl, nc, A, c, f, hp, h1, ?_⟩, hk⟩
  have : (finS s l i).li.length = s.li.length := by
    unfold finS
    by_cases hq : fndI s.li l i < 0
    · rw [if_pos hq]
    · rw [if_neg hq]; exact doneR_len _ _
  omega
theorem ahead_pr (w : World) (F : List Nat) (p : Nat) (s : Pl) (Φ : Nat) (h : PR w F p s Φ) (hΦ : Φ ≤ 800) (hi : ∀ x n, s.ln x = some n → n.it.length ≤ 1000) (x : Int) (h1 : -9223372036854775808 ≤ x) (h2 : x ≤ 9223372036854775807) :
    Calls Tryz.prog 17 #[.pointer (some ⟨p, 0, none⟩), .int .i64 x] w fun e w' => e = .returned (.tuple #[.int .i64 ((aheadV s x).getD 0), .bool (aheadV s x).isSome]) ∧ Keeps [] w w' := by
  have hl := h.li
  obtain ⟨lm, cm, nl, nc, A, c, f, h, -, -⟩ := h
  exact ahead_any w F p s lm cm nl nc A c f h (by omega) hi x h1 h2
theorem ahead_in {s : Pl} {l y : Int} (h : aheadV s l = some y) : ∃ n, s.ln l = some n ∧ y ∈ n.it := by
  unfold aheadV at h
  cases hn : s.ln l with
  | none => rw [hn] at h; cases h
  | some n =>
    rw [hn] at h
    dsimp only at h
    by_cases h4 : 4 ≤ manyI s.li l
    · rw [if_pos h4] at h; cases h
    · rw [if_neg h4] at h; exact ⟨n, rfl, List.mem_of_find?_eq_some h⟩
set_option maxRecDepth 100000 in
set_option maxHeartbeats 3200000 in
theorem do0_any (w : World) (F : List Nat) (p : Nat) (s : Pl) (Φ : Nat) (h : PR w F p s Φ) (hΦ : Φ ≤ 800) (hf : Fit s Φ) (x : Op) (hx : OkO x) (hz : ∀ W, Keeps F w W → AtZ W x.A x.it) (hk : bits .and .i64 x.d 15 = 0) :
    Calls Tryz.prog 8 #[.pointer (some ⟨p, 0, none⟩), .agg #[.int .i64 x.d, .int .i64 x.l, .int .i64 x.i, .int .i64 x.t, .int .i64 x.pd, .slice x.A x.it.length x.c]] w (DoQ w F p s Φ x) := by
  have ka : Keeps [] w (w.alloc (.cells #[.int .i64 x.d, .int .i64 x.l, .int .i64 x.i, .int .i64 x.t, .int .i64 x.pd, .slice x.A x.it.length x.c] 34)) := (Keeps.refl _ _).alloc _
  have b0 : Hid (Blk (w.alloc (.cells #[.int .i64 x.d, .int .i64 x.l, .int .i64 x.i, .int .i64 x.t, .int .i64 x.pd, .slice x.A x.it.length x.c] 34)) w.heap.size 34 #[.int .i64 x.d, .int .i64 x.l, .int .i64 x.i, .int .i64 x.t, .int .i64 x.pd, .slice x.A x.it.length x.c]) := Lib.hid (Blk.new w 34 _)
  have hp0 := h.keep0 ka
  have HP0 := Lib.hid hp0
  have KA := Lib.hid ka
  have HX := Lib.hid hx
  have HF := Lib.hid hf
  have HZ := Lib.hid hz
  have KD : Hid (dk x = 0) := Lib.hid (by unfold dk; rw [← and_15]; exact hk)
  have HC := Lib.hid (began_any _ F p s Φ hp0 (by omega) hf.itl _ (by have := hf.cp.choose_spec.2; omega) hf.cp.choose_spec.1 x.l x.i x.t hx.l1 hx.l2 hx.i1 hx.i2)
  obtain ⟨k, hkk⟩ : ∃ k, bits .and .i64 x.d 15 = k := ⟨_, rfl⟩
  clear h hp0 ka hx hf hz hkk
  go_enter Tryz.func8, Tryz.ntmps8
  have c0 : (w.alloc (.cells #[.int .i64 x.d, .int .i64 x.l, .int .i64 x.i, .int .i64 x.t, .int .i64 x.pd, .slice x.A x.it.length x.c] 34)).cell? ⟨w.heap.size, 0, none⟩ = some (.int .i64 x.d) := b0.out.cell 0
  have c1 : (w.alloc (.cells #[.int .i64 x.d, .int .i64 x.l, .int .i64 x.i, .int .i64 x.t, .int .i64 x.pd, .slice x.A x.it.length x.c] 34)).cell? ⟨w.heap.size, 1, none⟩ = some (.int .i64 x.l) := b0.out.cell 1
  have c2 : (w.alloc (.cells #[.int .i64 x.d, .int .i64 x.l, .int .i64 x.i, .int .i64 x.t, .int .i64 x.pd, .slice x.A x.it.length x.c] 34)).cell? ⟨w.heap.size, 2, none⟩ = some (.int .i64 x.i) := b0.out.cell 2
  have c3 : (w.alloc (.cells #[.int .i64 x.d, .int .i64 x.l, .int .i64 x.i, .int .i64 x.t, .int .i64 x.pd, .slice x.A x.it.length x.c] 34)).cell? ⟨w.heap.size, 3, none⟩ = some (.int .i64 x.t) := b0.out.cell 3
  have c4 : (w.alloc (.cells #[.int .i64 x.d, .int .i64 x.l, .int .i64 x.i, .int .i64 x.t, .int .i64 x.pd, .slice x.A x.it.length x.c] 34)).cell? ⟨w.heap.size, 4, none⟩ = some (.int .i64 x.pd) := b0.out.cell 4
  have c5 : (w.alloc (.cells #[.int .i64 x.d, .int .i64 x.l, .int .i64 x.i, .int .i64 x.t, .int .i64 x.pd, .slice x.A x.it.length x.c] 34)).cell? ⟨w.heap.size, 5, none⟩ = some (.slice x.A x.it.length x.c) := b0.out.cell 5
  go_wp2_with fail
  refine HC.out.mono ?_
  rintro e w1 ⟨rfl, F1, hp, k1, hf1⟩
  have HP := Lib.hid hp
  have HFF : Hid (∀ g ∈ F1, g ∈ F ∨ w.heap.size ≤ g) := Lib.hid (fun g hg => (hf1 g hg).elim .inl (fun h => .inr (Nat.le_trans KA.out.size h)))
  have K1 : Hid (Keeps F w w1) := Lib.hid ((KA.out.mono (by simp)).trans k1 (fun g hg => .inl hg))
  clear hp k1 hf1 HC c0 c1 c2 c3 c4 c5
  go_wp2_with fail
  go_ret3
  exact ⟨_, _, [], 0, _, F1, rfl, .beg (by have := KD.out; omega), World.ownsRow_nil _ _ _ _, HP.out, K1.out, HFF.out, by simp⟩
set_option maxRecDepth 100000 in
set_option maxHeartbeats 3200000 in
theorem do1_any (w : World) (F : List Nat) (p : Nat) (s : Pl) (Φ : Nat) (h : PR w F p s Φ) (hΦ : Φ ≤ 800) (hf : Fit s Φ) (x : Op) (hx : OkO x) (hz : ∀ W, Keeps F w W → AtZ W x.A x.it) (hk : bits .and .i64 x.d 15 = 1) :
    Calls Tryz.prog 8 #[.pointer (some ⟨p, 0, none⟩), .agg #[.int .i64 x.d, .int .i64 x.l, .int .i64 x.i, .int .i64 x.t, .int .i64 x.pd, .slice x.A x.it.length x.c]] w (DoQ w F p s Φ x) := by
  have ka : Keeps [] w (w.alloc (.cells #[.int .i64 x.d, .int .i64 x.l, .int .i64 x.i, .int .i64 x.t, .int .i64 x.pd, .slice x.A x.it.length x.c] 34)) := (Keeps.refl _ _).alloc _
  have b0 : Hid (Blk (w.alloc (.cells #[.int .i64 x.d, .int .i64 x.l, .int .i64 x.i, .int .i64 x.t, .int .i64 x.pd, .slice x.A x.it.length x.c] 34)) w.heap.size 34 #[.int .i64 x.d, .int .i64 x.l, .int .i64 x.i, .int .i64 x.t, .int .i64 x.pd, .slice x.A x.it.length x.c]) := Lib.hid (Blk.new w 34 _)
  have hp0 := h.keep0 ka
  have HP0 := Lib.hid hp0
  have KA := Lib.hid ka
  have HX := Lib.hid hx
  have HF := Lib.hid hf
  have HZ := Lib.hid hz
  have KD : Hid (dk x = 1) := Lib.hid (by unfold dk; rw [← and_15]; exact hk)
  have HC := Lib.hid (began_any _ F p s Φ hp0 (by omega) hf.itl _ (by have := hf.cp.choose_spec.2; omega) hf.cp.choose_spec.1 x.l x.i x.t hx.l1 hx.l2 hx.i1 hx.i2)
  obtain ⟨k, hkk⟩ : ∃ k, bits .and .i64 x.d 15 = k := ⟨_, rfl⟩
  clear h hp0 ka hx hf hz hkk
  go_enter Tryz.func8, Tryz.ntmps8
  have c0 : (w.alloc (.cells #[.int .i64 x.d, .int .i64 x.l, .int .i64 x.i, .int .i64 x.t, .int .i64 x.pd, .slice x.A x.it.length x.c] 34)).cell? ⟨w.heap.size, 0, none⟩ = some (.int .i64 x.d) := b0.out.cell 0
  have c1 : (w.alloc (.cells #[.int .i64 x.d, .int .i64 x.l, .int .i64 x.i, .int .i64 x.t, .int .i64 x.pd, .slice x.A x.it.length x.c] 34)).cell? ⟨w.heap.size, 1, none⟩ = some (.int .i64 x.l) := b0.out.cell 1
  have c2 : (w.alloc (.cells #[.int .i64 x.d, .int .i64 x.l, .int .i64 x.i, .int .i64 x.t, .int .i64 x.pd, .slice x.A x.it.length x.c] 34)).cell? ⟨w.heap.size, 2, none⟩ = some (.int .i64 x.i) := b0.out.cell 2
  have c3 : (w.alloc (.cells #[.int .i64 x.d, .int .i64 x.l, .int .i64 x.i, .int .i64 x.t, .int .i64 x.pd, .slice x.A x.it.length x.c] 34)).cell? ⟨w.heap.size, 3, none⟩ = some (.int .i64 x.t) := b0.out.cell 3
  have c4 : (w.alloc (.cells #[.int .i64 x.d, .int .i64 x.l, .int .i64 x.i, .int .i64 x.t, .int .i64 x.pd, .slice x.A x.it.length x.c] 34)).cell? ⟨w.heap.size, 4, none⟩ = some (.int .i64 x.pd) := b0.out.cell 4
  have c5 : (w.alloc (.cells #[.int .i64 x.d, .int .i64 x.l, .int .i64 x.i, .int .i64 x.t, .int .i64 x.pd, .slice x.A x.it.length x.c] 34)).cell? ⟨w.heap.size, 5, none⟩ = some (.slice x.A x.it.length x.c) := b0.out.cell 5
  go_wp2_with fail
  refine HC.out.mono ?_
  rintro e w1 ⟨rfl, F1, hp, k1, hf1⟩
  have HP := Lib.hid hp
  have HFF : Hid (∀ g ∈ F1, g ∈ F ∨ w.heap.size ≤ g) := Lib.hid (fun g hg => (hf1 g hg).elim .inl (fun h => .inr (Nat.le_trans KA.out.size h)))
  have K1 : Hid (Keeps F w w1) := Lib.hid ((KA.out.mono (by simp)).trans k1 (fun g hg => .inl hg))
  clear hp k1 hf1 HC c0 c1 c2 c3 c4 c5
  go_wp2_with fail
  go_ret3
  exact ⟨_, _, [], 0, _, F1, rfl, .beg (by have := KD.out; omega), World.ownsRow_nil _ _ _ _, HP.out, K1.out, HFF.out, by simp⟩
set_option maxRecDepth 100000 in
set_option maxHeartbeats 3200000 in
theorem do2_any (w : World) (F : List Nat) (p : Nat) (s : Pl) (Φ : Nat) (h : PR w F p s Φ) (hΦ : Φ ≤ 800) (hf : Fit s Φ) (x : Op) (hx : OkO x) (hz : ∀ W, Keeps F w W → AtZ W x.A x.it) (hk : bits .and .i64 x.d 15 = 2) :
    Calls Tryz.prog 8 #[.pointer (some ⟨p, 0, none⟩), .agg #[.int .i64 x.d, .int .i64 x.l, .int .i64 x.i, .int .i64 x.t, .int .i64 x.pd, .slice x.A x.it.length x.c]] w (DoQ w F p s Φ x) := by
  have ka : Keeps [] w (w.alloc (.cells #[.int .i64 x.d, .int .i64 x.l, .int .i64 x.i, .int .i64 x.t, .int .i64 x.pd, .slice x.A x.it.length x.c] 34)) := (Keeps.refl _ _).alloc _
  have b0 : Hid (Blk (w.alloc (.cells #[.int .i64 x.d, .int .i64 x.l, .int .i64 x.i, .int .i64 x.t, .int .i64 x.pd, .slice x.A x.it.length x.c] 34)) w.heap.size 34 #[.int .i64 x.d, .int .i64 x.l, .int .i64 x.i, .int .i64 x.t, .int .i64 x.pd, .slice x.A x.it.length x.c]) := Lib.hid (Blk.new w 34 _)
  have hp0 := h.keep0 ka
  have HP0 := Lib.hid hp0
  have KA := Lib.hid ka
  have HX := Lib.hid hx
  have HF := Lib.hid hf
  have HZ := Lib.hid hz
  have KD : Hid (dk x = 2) := Lib.hid (by unfold dk; rw [← and_15]; exact hk)
  have HC := Lib.hid (began_any _ F p s Φ hp0 (by omega) hf.itl _ (by have := hf.cp.choose_spec.2; omega) hf.cp.choose_spec.1 x.l x.i x.t hx.l1 hx.l2 hx.i1 hx.i2)
  obtain ⟨k, hkk⟩ : ∃ k, bits .and .i64 x.d 15 = k := ⟨_, rfl⟩
  clear h hp0 ka hx hf hz hkk
  go_enter Tryz.func8, Tryz.ntmps8
  have c0 : (w.alloc (.cells #[.int .i64 x.d, .int .i64 x.l, .int .i64 x.i, .int .i64 x.t, .int .i64 x.pd, .slice x.A x.it.length x.c] 34)).cell? ⟨w.heap.size, 0, none⟩ = some (.int .i64 x.d) := b0.out.cell 0
  have c1 : (w.alloc (.cells #[.int .i64 x.d, .int .i64 x.l, .int .i64 x.i, .int .i64 x.t, .int .i64 x.pd, .slice x.A x.it.length x.c] 34)).cell? ⟨w.heap.size, 1, none⟩ = some (.int .i64 x.l) := b0.out.cell 1
  have c2 : (w.alloc (.cells #[.int .i64 x.d, .int .i64 x.l, .int .i64 x.i, .int .i64 x.t, .int .i64 x.pd, .slice x.A x.it.length x.c] 34)).cell? ⟨w.heap.size, 2, none⟩ = some (.int .i64 x.i) := b0.out.cell 2
  have c3 : (w.alloc (.cells #[.int .i64 x.d, .int .i64 x.l, .int .i64 x.i, .int .i64 x.t, .int .i64 x.pd, .slice x.A x.it.length x.c] 34)).cell? ⟨w.heap.size, 3, none⟩ = some (.int .i64 x.t) := b0.out.cell 3
  have c4 : (w.alloc (.cells #[.int .i64 x.d, .int .i64 x.l, .int .i64 x.i, .int .i64 x.t, .int .i64 x.pd, .slice x.A x.it.length x.c] 34)).cell? ⟨w.heap.size, 4, none⟩ = some (.int .i64 x.pd) := b0.out.cell 4
  have c5 : (w.alloc (.cells #[.int .i64 x.d, .int .i64 x.l, .int .i64 x.i, .int .i64 x.t, .int .i64 x.pd, .slice x.A x.it.length x.c] 34)).cell? ⟨w.heap.size, 5, none⟩ = some (.slice x.A x.it.length x.c) := b0.out.cell 5
  go_wp2_with fail
  refine HC.out.mono ?_
  rintro e w1 ⟨rfl, F1, hp, k1, hf1⟩
  have HP := Lib.hid hp
  have HFF : Hid (∀ g ∈ F1, g ∈ F ∨ w.heap.size ≤ g) := Lib.hid (fun g hg => (hf1 g hg).elim .inl (fun h => .inr (Nat.le_trans KA.out.size h)))
  have K1 : Hid (Keeps F w w1) := Lib.hid ((KA.out.mono (by simp)).trans k1 (fun g hg => .inl hg))
  clear hp k1 hf1 HC c0 c1 c2 c3 c4 c5
  go_wp2_with fail
  go_ret3
  exact ⟨_, _, [], 0, _, F1, rfl, .beg (by have := KD.out; omega), World.ownsRow_nil _ _ _ _, HP.out, K1.out, HFF.out, by simp⟩
set_option maxRecDepth 100000 in
set_option maxHeartbeats 3200000 in
theorem do3_any (w : World) (F : List Nat) (p : Nat) (s : Pl) (Φ : Nat) (h : PR w F p s Φ) (hΦ : Φ ≤ 800) (hf : Fit s Φ) (x : Op) (hx : OkO x) (hz : ∀ W, Keeps F w W → AtZ W x.A x.it) (hk : bits .and .i64 x.d 15 = 3) :
    Calls Tryz.prog 8 #[.pointer (some ⟨p, 0, none⟩), .agg #[.int .i64 x.d, .int .i64 x.l, .int .i64 x.i, .int .i64 x.t, .int .i64 x.pd, .slice x.A x.it.length x.c]] w (DoQ w F p s Φ x) := by
  have ka : Keeps [] w (w.alloc (.cells #[.int .i64 x.d, .int .i64 x.l, .int .i64 x.i, .int .i64 x.t, .int .i64 x.pd, .slice x.A x.it.length x.c] 34)) := (Keeps.refl _ _).alloc _
  have b0 : Hid (Blk (w.alloc (.cells #[.int .i64 x.d, .int .i64 x.l, .int .i64 x.i, .int .i64 x.t, .int .i64 x.pd, .slice x.A x.it.length x.c] 34)) w.heap.size 34 #[.int .i64 x.d, .int .i64 x.l, .int .i64 x.i, .int .i64 x.t, .int .i64 x.pd, .slice x.A x.it.length x.c]) := Lib.hid (Blk.new w 34 _)
  have hp0 := h.keep0 ka
  have HP0 := Lib.hid hp0
  have KA := Lib.hid ka
  have HX := Lib.hid hx
  have HF := Lib.hid hf
  have HZ := Lib.hid hz
  have KD : Hid (dk x = 3) := Lib.hid (by unfold dk; rw [← and_15]; exact hk)
  have HC := Lib.hid (began_any _ F p s Φ hp0 (by omega) hf.itl _ (by have := hf.cp.choose_spec.2; omega) hf.cp.choose_spec.1 x.l x.i x.t hx.l1 hx.l2 hx.i1 hx.i2)
  obtain ⟨k, hkk⟩ : ∃ k, bits .and .i64 x.d 15 = k := ⟨_, rfl⟩
  clear h hp0 ka hx hf hz hkk
  go_enter Tryz.func8, Tryz.ntmps8
  have c0 : (w.alloc (.cells #[.int .i64 x.d, .int .i64 x.l, .int .i64 x.i, .int .i64 x.t, .int .i64 x.pd, .slice x.A x.it.length x.c] 34)).cell? ⟨w.heap.size, 0, none⟩ = some (.int .i64 x.d) := b0.out.cell 0
  have c1 : (w.alloc (.cells #[.int .i64 x.d, .int .i64 x.l, .int .i64 x.i, .int .i64 x.t, .int .i64 x.pd, .slice x.A x.it.length x.c] 34)).cell? ⟨w.heap.size, 1, none⟩ = some (.int .i64 x.l) := b0.out.cell 1
  have c2 : (w.alloc (.cells #[.int .i64 x.d, .int .i64 x.l, .int .i64 x.i, .int .i64 x.t, .int .i64 x.pd, .slice x.A x.it.length x.c] 34)).cell? ⟨w.heap.size, 2, none⟩ = some (.int .i64 x.i) := b0.out.cell 2
  have c3 : (w.alloc (.cells #[.int .i64 x.d, .int .i64 x.l, .int .i64 x.i, .int .i64 x.t, .int .i64 x.pd, .slice x.A x.it.length x.c] 34)).cell? ⟨w.heap.size, 3, none⟩ = some (.int .i64 x.t) := b0.out.cell 3
  have c4 : (w.alloc (.cells #[.int .i64 x.d, .int .i64 x.l, .int .i64 x.i, .int .i64 x.t, .int .i64 x.pd, .slice x.A x.it.length x.c] 34)).cell? ⟨w.heap.size, 4, none⟩ = some (.int .i64 x.pd) := b0.out.cell 4
  have c5 : (w.alloc (.cells #[.int .i64 x.d, .int .i64 x.l, .int .i64 x.i, .int .i64 x.t, .int .i64 x.pd, .slice x.A x.it.length x.c] 34)).cell? ⟨w.heap.size, 5, none⟩ = some (.slice x.A x.it.length x.c) := b0.out.cell 5
  go_wp2_with fail
  refine HC.out.mono ?_
  rintro e w1 ⟨rfl, F1, hp, k1, hf1⟩
  have HP := Lib.hid hp
  have HFF : Hid (∀ g ∈ F1, g ∈ F ∨ w.heap.size ≤ g) := Lib.hid (fun g hg => (hf1 g hg).elim .inl (fun h => .inr (Nat.le_trans KA.out.size h)))
  have K1 : Hid (Keeps F w w1) := Lib.hid ((KA.out.mono (by simp)).trans k1 (fun g hg => .inl hg))
  clear hp k1 hf1 HC c0 c1 c2 c3 c4 c5
  go_wp2_with fail
  go_ret3
  exact ⟨_, _, [], 0, _, F1, rfl, .beg (by have := KD.out; omega), World.ownsRow_nil _ _ _ _, HP.out, K1.out, HFF.out, by simp⟩
set_option maxRecDepth 100000 in
set_option maxHeartbeats 3200000 in
theorem do4_any (w : World) (F : List Nat) (p : Nat) (s : Pl) (Φ : Nat) (h : PR w F p s Φ) (hΦ : Φ ≤ 800) (hf : Fit s Φ) (x : Op) (hx : OkO x) (hz : ∀ W, Keeps F w W → AtZ W x.A x.it) (hk : bits .and .i64 x.d 15 = 4) :
    Calls Tryz.prog 8 #[.pointer (some ⟨p, 0, none⟩), .agg #[.int .i64 x.d, .int .i64 x.l, .int .i64 x.i, .int .i64 x.t, .int .i64 x.pd, .slice x.A x.it.length x.c]] w (DoQ w F p s Φ x) := by
  have ka : Keeps [] w (w.alloc (.cells #[.int .i64 x.d, .int .i64 x.l, .int .i64 x.i, .int .i64 x.t, .int .i64 x.pd, .slice x.A x.it.length x.c] 34)) := (Keeps.refl _ _).alloc _
  have b0 : Hid (Blk (w.alloc (.cells #[.int .i64 x.d, .int .i64 x.l, .int .i64 x.i, .int .i64 x.t, .int .i64 x.pd, .slice x.A x.it.length x.c] 34)) w.heap.size 34 #[.int .i64 x.d, .int .i64 x.l, .int .i64 x.i, .int .i64 x.t, .int .i64 x.pd, .slice x.A x.it.length x.c]) := Lib.hid (Blk.new w 34 _)
  have hp0 := h.keep0 ka
  have HP0 := Lib.hid hp0
  have KA := Lib.hid ka
  have HX := Lib.hid hx
  have HF := Lib.hid hf
  have HZ := Lib.hid hz
  have KD : Hid (dk x = 4) := Lib.hid (by unfold dk; rw [← and_15]; exact hk)
  have HC := Lib.hid (finished_pr _ F p s Φ hp0 hΦ x.l x.i)
  obtain ⟨k, hkk⟩ : ∃ k, bits .and .i64 x.d 15 = k := ⟨_, rfl⟩
  clear h hp0 ka hx hf hz hkk
  go_enter Tryz.func8, Tryz.ntmps8
  have c0 : (w.alloc (.cells #[.int .i64 x.d, .int .i64 x.l, .int .i64 x.i, .int .i64 x.t, .int .i64 x.pd, .slice x.A x.it.length x.c] 34)).cell? ⟨w.heap.size, 0, none⟩ = some (.int .i64 x.d) := b0.out.cell 0
  have c1 : (w.alloc (.cells #[.int .i64 x.d, .int .i64 x.l, .int .i64 x.i, .int .i64 x.t, .int .i64 x.pd, .slice x.A x.it.length x.c] 34)).cell? ⟨w.heap.size, 1, none⟩ = some (.int .i64 x.l) := b0.out.cell 1
  have c2 : (w.alloc (.cells #[.int .i64 x.d, .int .i64 x.l, .int .i64 x.i, .int .i64 x.t, .int .i64 x.pd, .slice x.A x.it.length x.c] 34)).cell? ⟨w.heap.size, 2, none⟩ = some (.int .i64 x.i) := b0.out.cell 2
  have c3 : (w.alloc (.cells #[.int .i64 x.d, .int .i64 x.l, .int .i64 x.i, .int .i64 x.t, .int .i64 x.pd, .slice x.A x.it.length x.c] 34)).cell? ⟨w.heap.size, 3, none⟩ = some (.int .i64 x.t) := b0.out.cell 3
  have c4 : (w.alloc (.cells #[.int .i64 x.d, .int .i64 x.l, .int .i64 x.i, .int .i64 x.t, .int .i64 x.pd, .slice x.A x.it.length x.c] 34)).cell? ⟨w.heap.size, 4, none⟩ = some (.int .i64 x.pd) := b0.out.cell 4
  have c5 : (w.alloc (.cells #[.int .i64 x.d, .int .i64 x.l, .int .i64 x.i, .int .i64 x.t, .int .i64 x.pd, .slice x.A x.it.length x.c] 34)).cell? ⟨w.heap.size, 5, none⟩ = some (.slice x.A x.it.length x.c) := b0.out.cell 5
  go_wp2_with fail
  refine HC.out.mono ?_
  rintro e w1 ⟨rfl, hp, k1⟩
  have HP := Lib.hid hp
  have K1 : Hid (Keeps F w w1) := Lib.hid ((KA.out.mono (by simp)).trans k1 (fun g hg => .inl hg))
  clear hp k1 HC c0 c1 c2 c3 c4 c5
  go_wp2_with fail
  go_ret3
  exact ⟨_, _, [], 0, _, F, rfl, .fin (by have := KD.out; omega), World.ownsRow_nil _ _ _ _, HP.out.mono (by omega), K1.out, fun g hg => .inl hg, by simp⟩
set_option maxRecDepth 100000 in
set_option maxHeartbeats 3200000 in
theorem do5_any (w : World) (F : List Nat) (p : Nat) (s : Pl) (Φ : Nat) (h : PR w F p s Φ) (hΦ : Φ ≤ 800) (hf : Fit s Φ) (x : Op) (hx : OkO x) (hz : ∀ W, Keeps F w W → AtZ W x.A x.it) (hk : bits .and .i64 x.d 15 = 5) :
    Calls Tryz.prog 8 #[.pointer (some ⟨p, 0, none⟩), .agg #[.int .i64 x.d, .int .i64 x.l, .int .i64 x.i, .int .i64 x.t, .int .i64 x.pd, .slice x.A x.it.length x.c]] w (DoQ w F p s Φ x) := by
  have ka : Keeps [] w (w.alloc (.cells #[.int .i64 x.d, .int .i64 x.l, .int .i64 x.i, .int .i64 x.t, .int .i64 x.pd, .slice x.A x.it.length x.c] 34)) := (Keeps.refl _ _).alloc _
  have b0 : Hid (Blk (w.alloc (.cells #[.int .i64 x.d, .int .i64 x.l, .int .i64 x.i, .int .i64 x.t, .int .i64 x.pd, .slice x.A x.it.length x.c] 34)) w.heap.size 34 #[.int .i64 x.d, .int .i64 x.l, .int .i64 x.i, .int .i64 x.t, .int .i64 x.pd, .slice x.A x.it.length x.c]) := Lib.hid (Blk.new w 34 _)
  have hp0 := h.keep0 ka
  have HP0 := Lib.hid hp0
  have KA := Lib.hid ka
  have HX := Lib.hid hx
  have HF := Lib.hid hf
  have HZ := Lib.hid hz
  have KD : Hid (dk x = 5) := Lib.hid (by unfold dk; rw [← and_15]; exact hk)
  have HC := Lib.hid (finished_pr _ F p s Φ hp0 hΦ x.l x.i)
  obtain ⟨k, hkk⟩ : ∃ k, bits .and .i64 x.d 15 = k := ⟨_, rfl⟩
  clear h hp0 ka hx hf hz hkk
  go_enter Tryz.func8, Tryz.ntmps8
  have c0 : (w.alloc (.cells #[.int .i64 x.d, .int .i64 x.l, .int .i64 x.i, .int .i64 x.t, .int .i64 x.pd, .slice x.A x.it.length x.c] 34)).cell? ⟨w.heap.size, 0, none⟩ = some (.int .i64 x.d) := b0.out.cell 0
  have c1 : (w.alloc (.cells #[.int .i64 x.d, .int .i64 x.l, .int .i64 x.i, .int .i64 x.t, .int .i64 x.pd, .slice x.A x.it.length x.c] 34)).cell? ⟨w.heap.size, 1, none⟩ = some (.int .i64 x.l) := b0.out.cell 1
  have c2 : (w.alloc (.cells #[.int .i64 x.d, .int .i64 x.l, .int .i64 x.i, .int .i64 x.t, .int .i64 x.pd, .slice x.A x.it.length x.c] 34)).cell? ⟨w.heap.size, 2, none⟩ = some (.int .i64 x.i) := b0.out.cell 2
  have c3 : (w.alloc (.cells #[.int .i64 x.d, .int .i64 x.l, .int .i64 x.i, .int .i64 x.t, .int .i64 x.pd, .slice x.A x.it.length x.c] 34)).cell? ⟨w.heap.size, 3, none⟩ = some (.int .i64 x.t) := b0.out.cell 3
  have c4 : (w.alloc (.cells #[.int .i64 x.d, .int .i64 x.l, .int .i64 x.i, .int .i64 x.t, .int .i64 x.pd, .slice x.A x.it.length x.c] 34)).cell? ⟨w.heap.size, 4, none⟩ = some (.int .i64 x.pd) := b0.out.cell 4
  have c5 : (w.alloc (.cells #[.int .i64 x.d, .int .i64 x.l, .int .i64 x.i, .int .i64 x.t, .int .i64 x.pd, .slice x.A x.it.length x.c] 34)).cell? ⟨w.heap.size, 5, none⟩ = some (.slice x.A x.it.length x.c) := b0.out.cell 5
  go_wp2_with fail
  refine HC.out.mono ?_
  rintro e w1 ⟨rfl, hp, k1⟩
  have HP := Lib.hid hp
  have K1 : Hid (Keeps F w w1) := Lib.hid ((KA.out.mono (by simp)).trans k1 (fun g hg => .inl hg))
  clear hp k1 HC c0 c1 c2 c3 c4 c5
  go_wp2_with fail
  go_ret3
  exact ⟨_, _, [], 0, _, F, rfl, .fin (by have := KD.out; omega), World.ownsRow_nil _ _ _ _, HP.out.mono (by omega), K1.out, fun g hg => .inl hg, by simp⟩
set_option maxRecDepth 100000 in
set_option maxHeartbeats 3200000 in
theorem do6_any (w : World) (F : List Nat) (p : Nat) (s : Pl) (Φ : Nat) (h : PR w F p s Φ) (hΦ : Φ ≤ 800) (hf : Fit s Φ) (x : Op) (hx : OkO x) (hz : ∀ W, Keeps F w W → AtZ W x.A x.it) (hk : bits .and .i64 x.d 15 = 6) :
    Calls Tryz.prog 8 #[.pointer (some ⟨p, 0, none⟩), .agg #[.int .i64 x.d, .int .i64 x.l, .int .i64 x.i, .int .i64 x.t, .int .i64 x.pd, .slice x.A x.it.length x.c]] w (DoQ w F p s Φ x) := by
  have ka : Keeps [] w (w.alloc (.cells #[.int .i64 x.d, .int .i64 x.l, .int .i64 x.i, .int .i64 x.t, .int .i64 x.pd, .slice x.A x.it.length x.c] 34)) := (Keeps.refl _ _).alloc _
  have b0 : Hid (Blk (w.alloc (.cells #[.int .i64 x.d, .int .i64 x.l, .int .i64 x.i, .int .i64 x.t, .int .i64 x.pd, .slice x.A x.it.length x.c] 34)) w.heap.size 34 #[.int .i64 x.d, .int .i64 x.l, .int .i64 x.i, .int .i64 x.t, .int .i64 x.pd, .slice x.A x.it.length x.c]) := Lib.hid (Blk.new w 34 _)
  have hp0 := h.keep0 ka
  have HP0 := Lib.hid hp0
  have KA := Lib.hid ka
  have HX := Lib.hid hx
  have HF := Lib.hid hf
  have HZ := Lib.hid hz
  have KD : Hid (dk x = 6) := Lib.hid (by unfold dk; rw [← and_15]; exact hk)
  have HC := Lib.hid (committed_any _ F p s Φ hp0 (by omega) hf.ks hf.kr hf.hl hf.itl _ (by have := hf.cp.choose_spec.2; omega) hf.cp.choose_spec.1 x.l x.i hx.l1 hx.l2 x.A x.it x.c (fun W hW => hz W ((ka.mono (by simp)).trans hW (fun g hg => .inl hg))) hx.n hx.it)
  obtain ⟨k, hkk⟩ : ∃ k, bits .and .i64 x.d 15 = k := ⟨_, rfl⟩
  clear h hp0 ka hx hf hz hkk
  go_enter Tryz.func8, Tryz.ntmps8
  have c0 : (w.alloc (.cells #[.int .i64 x.d, .int .i64 x.l, .int .i64 x.i, .int .i64 x.t, .int .i64 x.pd, .slice x.A x.it.length x.c] 34)).cell? ⟨w.heap.size, 0, none⟩ = some (.int .i64 x.d) := b0.out.cell 0
  have c1 : (w.alloc (.cells #[.int .i64 x.d, .int .i64 x.l, .int .i64 x.i, .int .i64 x.t, .int .i64 x.pd, .slice x.A x.it.length x.c] 34)).cell? ⟨w.heap.size, 1, none⟩ = some (.int .i64 x.l) := b0.out.cell 1
  have c2 : (w.alloc (.cells #[.int .i64 x.d, .int .i64 x.l, .int .i64 x.i, .int .i64 x.t, .int .i64 x.pd, .slice x.A x.it.length x.c] 34)).cell? ⟨w.heap.size, 2, none⟩ = some (.int .i64 x.i) := b0.out.cell 2
  have c3 : (w.alloc (.cells #[.int .i64 x.d, .int .i64 x.l, .int .i64 x.i, .int .i64 x.t, .int .i64 x.pd, .slice x.A x.it.length x.c] 34)).cell? ⟨w.heap.size, 3, none⟩ = some (.int .i64 x.t) := b0.out.cell 3
  have c4 : (w.alloc (.cells #[.int .i64 x.d, .int .i64 x.l, .int .i64 x.i, .int .i64 x.t, .int .i64 x.pd, .slice x.A x.it.length x.c] 34)).cell? ⟨w.heap.size, 4, none⟩ = some (.int .i64 x.pd) := b0.out.cell 4
  have c5 : (w.alloc (.cells #[.int .i64 x.d, .int .i64 x.l, .int .i64 x.i, .int .i64 x.t, .int .i64 x.pd, .slice x.A x.it.length x.c] 34)).cell? ⟨w.heap.size, 5, none⟩ = some (.slice x.A x.it.length x.c) := b0.out.cell 5
  go_wp2_with fail
  refine HC.out.mono ?_
  rintro e w1 ⟨v, s', o, en, rfl, hr, ho, hp, k1, hf1⟩
  have HR := Lib.hid hr
  have HO := Lib.hid ho
  have HP := Lib.hid hp
  have HFF := Lib.hid (fun g hg => Nat.le_trans KA.out.size (hf1 g hg))
  have K1 : Hid (Keeps F w w1) := Lib.hid ((KA.out.mono (by simp)).trans k1 (fun g hg => .inl hg))
  obtain ⟨A5, c5', rfl, -, -, -⟩ := own_shape ho
  clear hr ho hp k1 hf1 HC c0 c1 c2 c3 c4 c5
  go_wp2_with fail
  go_ret3
  exact ⟨_, s', o, 0, en, F, rfl, .com KD.out HR.out, HO.out, HP.out.mono (by omega), K1.out, fun g hg => .inl hg, HFF.out⟩
set_option maxRecDepth 100000 in
set_option maxHeartbeats 3200000 in
theorem do7_any (w : World) (F : List Nat) (p : Nat) (s : Pl) (Φ : Nat) (h : PR w F p s Φ) (hΦ : Φ ≤ 800) (hf : Fit s Φ) (x : Op) (hx : OkO x) (hz : ∀ W, Keeps F w W → AtZ W x.A x.it) (hk : bits .and .i64 x.d 15 = 7) :
    Calls Tryz.prog 8 #[.pointer (some ⟨p, 0, none⟩), .agg #[.int .i64 x.d, .int .i64 x.l, .int .i64 x.i, .int .i64 x.t, .int .i64 x.pd, .slice x.A x.it.length x.c]] w (DoQ w F p s Φ x) := by
  have ka : Keeps [] w (w.alloc (.cells #[.int .i64 x.d, .int .i64 x.l, .int .i64 x.i, .int .i64 x.t, .int .i64 x.pd, .slice x.A x.it.length x.c] 34)) := (Keeps.refl _ _).alloc _
  have b0 : Hid (Blk (w.alloc (.cells #[.int .i64 x.d, .int .i64 x.l, .int .i64 x.i, .int .i64 x.t, .int .i64 x.pd, .slice x.A x.it.length x.c] 34)) w.heap.size 34 #[.int .i64 x.d, .int .i64 x.l, .int .i64 x.i, .int .i64 x.t, .int .i64 x.pd, .slice x.A x.it.length x.c]) := Lib.hid (Blk.new w 34 _)
  have hp0 := h.keep0 ka
  have HP0 := Lib.hid hp0
  have KA := Lib.hid ka
  have HX := Lib.hid hx
  have HF := Lib.hid hf
  have HZ := Lib.hid hz
  have KD : Hid (dk x = 7) := Lib.hid (by unfold dk; rw [← and_15]; exact hk)
  have HC := Lib.hid (failed_any _ F p s Φ hp0 (by omega) hf.ks _ (by have := hf.cp.choose_spec.2; omega) hf.cp.choose_spec.1 x.l x.i (kP_ok hx.l1 hx.l2 hx.i1 hx.i2))
  obtain ⟨k, hkk⟩ : ∃ k, bits .and .i64 x.d 15 = k := ⟨_, rfl⟩
  clear h hp0 ka hx hf hz hkk
  go_enter Tryz.func8, Tryz.ntmps8
  have c0 : (w.alloc (.cells #[.int .i64 x.d, .int .i64 x.l, .int .i64 x.i, .int .i64 x.t, .int .i64 x.pd, .slice x.A x.it.length x.c] 34)).cell? ⟨w.heap.size, 0, none⟩ = some (.int .i64 x.d) := b0.out.cell 0
  have c1 : (w.alloc (.cells #[.int .i64 x.d, .int .i64 x.l, .int .i64 x.i, .int .i64 x.t, .int .i64 x.pd, .slice x.A x.it.length x.c] 34)).cell? ⟨w.heap.size, 1, none⟩ = some (.int .i64 x.l) := b0.out.cell 1
  have c2 : (w.alloc (.cells #[.int .i64 x.d, .int .i64 x.l, .int .i64 x.i, .int .i64 x.t, .int .i64 x.pd, .slice x.A x.it.length x.c] 34)).cell? ⟨w.heap.size, 2, none⟩ = some (.int .i64 x.i) := b0.out.cell 2
  have c3 : (w.alloc (.cells #[.int .i64 x.d, .int .i64 x.l, .int .i64 x.i, .int .i64 x.t, .int .i64 x.pd, .slice x.A x.it.length x.c] 34)).cell? ⟨w.heap.size, 3, none⟩ = some (.int .i64 x.t) := b0.out.cell 3
  have c4 : (w.alloc (.cells #[.int .i64 x.d, .int .i64 x.l, .int .i64 x.i, .int .i64 x.t, .int .i64 x.pd, .slice x.A x.it.length x.c] 34)).cell? ⟨w.heap.size, 4, none⟩ = some (.int .i64 x.pd) := b0.out.cell 4
  have c5 : (w.alloc (.cells #[.int .i64 x.d, .int .i64 x.l, .int .i64 x.i, .int .i64 x.t, .int .i64 x.pd, .slice x.A x.it.length x.c] 34)).cell? ⟨w.heap.size, 5, none⟩ = some (.slice x.A x.it.length x.c) := b0.out.cell 5
  go_wp2_with fail
  refine HC.out.mono ?_
  rintro e w1 ⟨v, s', o, en, rfl, hr, ho, hp, k1, hf1⟩
  have HR := Lib.hid hr
  have HO := Lib.hid ho
  have HP := Lib.hid hp
  have HFF := Lib.hid (fun g hg => Nat.le_trans KA.out.size (hf1 g hg))
  have K1 : Hid (Keeps F w w1) := Lib.hid ((KA.out.mono (by simp)).trans k1 (fun g hg => .inl hg))
  obtain ⟨A5, c5', rfl, -, -, -⟩ := own_shape ho
  clear hr ho hp k1 hf1 HC c0 c1 c2 c3 c4 c5
  go_wp2_with fail
  go_ret3
  exact ⟨_, s', o, 0, en, F, rfl, .con KD.out HR.out, HO.out, HP.out.mono (by omega), K1.out, fun g hg => .inl hg, HFF.out⟩
set_option maxRecDepth 100000 in
set_option maxHeartbeats 3200000 in
theorem do8_any (w : World) (F : List Nat) (p : Nat) (s : Pl) (Φ : Nat) (h : PR w F p s Φ) (hΦ : Φ ≤ 800) (hf : Fit s Φ) (x : Op) (hx : OkO x) (hz : ∀ W, Keeps F w W → AtZ W x.A x.it) (hk : bits .and .i64 x.d 15 = 8) :
    Calls Tryz.prog 8 #[.pointer (some ⟨p, 0, none⟩), .agg #[.int .i64 x.d, .int .i64 x.l, .int .i64 x.i, .int .i64 x.t, .int .i64 x.pd, .slice x.A x.it.length x.c]] w (DoQ w F p s Φ x) := by
  have ka : Keeps [] w (w.alloc (.cells #[.int .i64 x.d, .int .i64 x.l, .int .i64 x.i, .int .i64 x.t, .int .i64 x.pd, .slice x.A x.it.length x.c] 34)) := (Keeps.refl _ _).alloc _
  have b0 : Hid (Blk (w.alloc (.cells #[.int .i64 x.d, .int .i64 x.l, .int .i64 x.i, .int .i64 x.t, .int .i64 x.pd, .slice x.A x.it.length x.c] 34)) w.heap.size 34 #[.int .i64 x.d, .int .i64 x.l, .int .i64 x.i, .int .i64 x.t, .int .i64 x.pd, .slice x.A x.it.length x.c]) := Lib.hid (Blk.new w 34 _)
  have hp0 := h.keep0 ka
  have HP0 := Lib.hid hp0
  have KA := Lib.hid ka
  have HX := Lib.hid hx
  have HF := Lib.hid hf
  have HZ := Lib.hid hz
  have KD : Hid (dk x = 8) := Lib.hid (by unfold dk; rw [← and_15]; exact hk)
  have HC := Lib.hid (dropped_any _ F p s Φ hp0 (by omega) hf.ks _ (by have := hf.cp.choose_spec.2; omega) hf.cp.choose_spec.1 x.l x.i (kP_ok hx.l1 hx.l2 hx.i1 hx.i2))
  obtain ⟨k, hkk⟩ : ∃ k, bits .and .i64 x.d 15 = k := ⟨_, rfl⟩
  clear h hp0 ka hx hf hz hkk
  go_enter Tryz.func8, Tryz.ntmps8
  have c0 : (w.alloc (.cells #[.int .i64 x.d, .int .i64 x.l, .int .i64 x.i, .int .i64 x.t, .int .i64 x.pd, .slice x.A x.it.length x.c] 34)).cell? ⟨w.heap.size, 0, none⟩ = some (.int .i64 x.d) := b0.out.cell 0
  have c1 : (w.alloc (.cells #[.int .i64 x.d, .int .i64 x.l, .int .i64 x.i, .int .i64 x.t, .int .i64 x.pd, .slice x.A x.it.length x.c] 34)).cell? ⟨w.heap.size, 1, none⟩ = some (.int .i64 x.l) := b0.out.cell 1
  have c2 : (w.alloc (.cells #[.int .i64 x.d, .int .i64 x.l, .int .i64 x.i, .int .i64 x.t, .int .i64 x.pd, .slice x.A x.it.length x.c] 34)).cell? ⟨w.heap.size, 2, none⟩ = some (.int .i64 x.i) := b0.out.cell 2
  have c3 : (w.alloc (.cells #[.int .i64 x.d, .int .i64 x.l, .int .i64 x.i, .int .i64 x.t, .int .i64 x.pd, .slice x.A x.it.length x.c] 34)).cell? ⟨w.heap.size, 3, none⟩ = some (.int .i64 x.t) := b0.out.cell 3
  have c4 : (w.alloc (.cells #[.int .i64 x.d, .int .i64 x.l, .int .i64 x.i, .int .i64 x.t, .int .i64 x.pd, .slice x.A x.it.length x.c] 34)).cell? ⟨w.heap.size, 4, none⟩ = some (.int .i64 x.pd) := b0.out.cell 4
  have c5 : (w.alloc (.cells #[.int .i64 x.d, .int .i64 x.l, .int .i64 x.i, .int .i64 x.t, .int .i64 x.pd, .slice x.A x.it.length x.c] 34)).cell? ⟨w.heap.size, 5, none⟩ = some (.slice x.A x.it.length x.c) := b0.out.cell 5
  go_wp2_with fail
  refine HC.out.mono ?_
  rintro e w1 ⟨v, s', o, en, rfl, hr, ho, hp, k1, hf1⟩
  have HR := Lib.hid hr
  have HO := Lib.hid ho
  have HP := Lib.hid hp
  have HFF := Lib.hid (fun g hg => Nat.le_trans KA.out.size (hf1 g hg))
  have K1 : Hid (Keeps F w w1) := Lib.hid ((KA.out.mono (by simp)).trans k1 (fun g hg => .inl hg))
  obtain ⟨A5, c5', rfl, -, -, -⟩ := own_shape ho
  clear hr ho hp k1 hf1 HC c0 c1 c2 c3 c4 c5
  go_wp2_with fail
  go_ret3
  exact ⟨_, s', o, 0, en, F, rfl, .drp KD.out HR.out, HO.out, HP.out.mono (by omega), K1.out, fun g hg => .inl hg, HFF.out⟩
set_option maxRecDepth 100000 in
set_option maxHeartbeats 3200000 in
theorem do9_any (w : World) (F : List Nat) (p : Nat) (s : Pl) (Φ : Nat) (h : PR w F p s Φ) (hΦ : Φ ≤ 800) (hf : Fit s Φ) (x : Op) (hx : OkO x) (hz : ∀ W, Keeps F w W → AtZ W x.A x.it) (hk : bits .and .i64 x.d 15 = 9) :
    Calls Tryz.prog 8 #[.pointer (some ⟨p, 0, none⟩), .agg #[.int .i64 x.d, .int .i64 x.l, .int .i64 x.i, .int .i64 x.t, .int .i64 x.pd, .slice x.A x.it.length x.c]] w (DoQ w F p s Φ x) := by
  have ka : Keeps [] w (w.alloc (.cells #[.int .i64 x.d, .int .i64 x.l, .int .i64 x.i, .int .i64 x.t, .int .i64 x.pd, .slice x.A x.it.length x.c] 34)) := (Keeps.refl _ _).alloc _
  have b0 : Hid (Blk (w.alloc (.cells #[.int .i64 x.d, .int .i64 x.l, .int .i64 x.i, .int .i64 x.t, .int .i64 x.pd, .slice x.A x.it.length x.c] 34)) w.heap.size 34 #[.int .i64 x.d, .int .i64 x.l, .int .i64 x.i, .int .i64 x.t, .int .i64 x.pd, .slice x.A x.it.length x.c]) := Lib.hid (Blk.new w 34 _)
  have hp0 := h.keep0 ka
  have HP0 := Lib.hid hp0
  have KA := Lib.hid ka
  have HX := Lib.hid hx
  have HF := Lib.hid hf
  have HZ := Lib.hid hz
  have KD : Hid (dk x = 9) := Lib.hid (by unfold dk; rw [← and_15]; exact hk)
  have HC := Lib.hid (gone_any _ F p s Φ hp0 (by omega) hf.ks x.l hx.l1 hx.l2)
  obtain ⟨k, hkk⟩ : ∃ k, bits .and .i64 x.d 15 = k := ⟨_, rfl⟩
  clear h hp0 ka hx hf hz hkk
  go_enter Tryz.func8, Tryz.ntmps8
  have c0 : (w.alloc (.cells #[.int .i64 x.d, .int .i64 x.l, .int .i64 x.i, .int .i64 x.t, .int .i64 x.pd, .slice x.A x.it.length x.c] 34)).cell? ⟨w.heap.size, 0, none⟩ = some (.int .i64 x.d) := b0.out.cell 0
  have c1 : (w.alloc (.cells #[.int .i64 x.d, .int .i64 x.l, .int .i64 x.i, .int .i64 x.t, .int .i64 x.pd, .slice x.A x.it.length x.c] 34)).cell? ⟨w.heap.size, 1, none⟩ = some (.int .i64 x.l) := b0.out.cell 1
  have c2 : (w.alloc (.cells #[.int .i64 x.d, .int .i64 x.l, .int .i64 x.i, .int .i64 x.t, .int .i64 x.pd, .slice x.A x.it.length x.c] 34)).cell? ⟨w.heap.size, 2, none⟩ = some (.int .i64 x.i) := b0.out.cell 2
  have c3 : (w.alloc (.cells #[.int .i64 x.d, .int .i64 x.l, .int .i64 x.i, .int .i64 x.t, .int .i64 x.pd, .slice x.A x.it.length x.c] 34)).cell? ⟨w.heap.size, 3, none⟩ = some (.int .i64 x.t) := b0.out.cell 3
  have c4 : (w.alloc (.cells #[.int .i64 x.d, .int .i64 x.l, .int .i64 x.i, .int .i64 x.t, .int .i64 x.pd, .slice x.A x.it.length x.c] 34)).cell? ⟨w.heap.size, 4, none⟩ = some (.int .i64 x.pd) := b0.out.cell 4
  have c5 : (w.alloc (.cells #[.int .i64 x.d, .int .i64 x.l, .int .i64 x.i, .int .i64 x.t, .int .i64 x.pd, .slice x.A x.it.length x.c] 34)).cell? ⟨w.heap.size, 5, none⟩ = some (.slice x.A x.it.length x.c) := b0.out.cell 5
  go_wp2_with fail
  refine HC.out.mono ?_
  rintro e w1 ⟨v, s', o, rfl, hr, ho, hp, k1, hf1⟩
  have HR := Lib.hid hr
  have HO := Lib.hid ho
  have HP := Lib.hid hp
  have HFF := Lib.hid (fun g hg => Nat.le_trans KA.out.size (hf1 g hg))
  have K1 : Hid (Keeps F w w1) := Lib.hid ((KA.out.mono (by simp)).trans k1 (fun g hg => .inl hg))
  obtain ⟨A5, c5', rfl, -, -, -⟩ := own_shape ho
  clear hr ho hp k1 hf1 HC c0 c1 c2 c3 c4 c5
  go_wp2_with fail
  go_ret3
  exact ⟨_, s', o, 0, 0, F, rfl, .gon KD.out HR.out, HO.out, HP.out.mono (by omega), K1.out, fun g hg => .inl hg, HFF.out⟩
set_option maxRecDepth 100000 in
set_option maxHeartbeats 3200000 in
theorem do10_any (w : World) (F : List Nat) (p : Nat) (s : Pl) (Φ : Nat) (h : PR w F p s Φ) (hΦ : Φ ≤ 800) (hf : Fit s Φ) (x : Op) (hx : OkO x) (hz : ∀ W, Keeps F w W → AtZ W x.A x.it) (hk : bits .and .i64 x.d 15 = 10) :
    Calls Tryz.prog 8 #[.pointer (some ⟨p, 0, none⟩), .agg #[.int .i64 x.d, .int .i64 x.l, .int .i64 x.i, .int .i64 x.t, .int .i64 x.pd, .slice x.A x.it.length x.c]] w (DoQ w F p s Φ x) := by
  have ka : Keeps [] w (w.alloc (.cells #[.int .i64 x.d, .int .i64 x.l, .int .i64 x.i, .int .i64 x.t, .int .i64 x.pd, .slice x.A x.it.length x.c] 34)) := (Keeps.refl _ _).alloc _
  have b0 : Hid (Blk (w.alloc (.cells #[.int .i64 x.d, .int .i64 x.l, .int .i64 x.i, .int .i64 x.t, .int .i64 x.pd, .slice x.A x.it.length x.c] 34)) w.heap.size 34 #[.int .i64 x.d, .int .i64 x.l, .int .i64 x.i, .int .i64 x.t, .int .i64 x.pd, .slice x.A x.it.length x.c]) := Lib.hid (Blk.new w 34 _)
  have hp0 := h.keep0 ka
  have HP0 := Lib.hid hp0
  have KA := Lib.hid ka
  have HX := Lib.hid hx
  have HF := Lib.hid hf
  have HZ := Lib.hid hz
  have KD : Hid (dk x = 10) := Lib.hid (by unfold dk; rw [← and_15]; exact hk)
  have HC := Lib.hid (nest_any _ F p s Φ hp0 (by omega) hf.id x.t x.pd x.A x.it x.c (hz _ (ka.mono (by simp))) hx.it)
  obtain ⟨k, hkk⟩ : ∃ k, bits .and .i64 x.d 15 = k := ⟨_, rfl⟩
  clear h hp0 ka hx hf hz hkk
  go_enter Tryz.func8, Tryz.ntmps8
  have c0 : (w.alloc (.cells #[.int .i64 x.d, .int .i64 x.l, .int .i64 x.i, .int .i64 x.t, .int .i64 x.pd, .slice x.A x.it.length x.c] 34)).cell? ⟨w.heap.size, 0, none⟩ = some (.int .i64 x.d) := b0.out.cell 0
  have c1 : (w.alloc (.cells #[.int .i64 x.d, .int .i64 x.l, .int .i64 x.i, .int .i64 x.t, .int .i64 x.pd, .slice x.A x.it.length x.c] 34)).cell? ⟨w.heap.size, 1, none⟩ = some (.int .i64 x.l) := b0.out.cell 1
  have c2 : (w.alloc (.cells #[.int .i64 x.d, .int .i64 x.l, .int .i64 x.i, .int .i64 x.t, .int .i64 x.pd, .slice x.A x.it.length x.c] 34)).cell? ⟨w.heap.size, 2, none⟩ = some (.int .i64 x.i) := b0.out.cell 2
  have c3 : (w.alloc (.cells #[.int .i64 x.d, .int .i64 x.l, .int .i64 x.i, .int .i64 x.t, .int .i64 x.pd, .slice x.A x.it.length x.c] 34)).cell? ⟨w.heap.size, 3, none⟩ = some (.int .i64 x.t) := b0.out.cell 3
  have c4 : (w.alloc (.cells #[.int .i64 x.d, .int .i64 x.l, .int .i64 x.i, .int .i64 x.t, .int .i64 x.pd, .slice x.A x.it.length x.c] 34)).cell? ⟨w.heap.size, 4, none⟩ = some (.int .i64 x.pd) := b0.out.cell 4
  have c5 : (w.alloc (.cells #[.int .i64 x.d, .int .i64 x.l, .int .i64 x.i, .int .i64 x.t, .int .i64 x.pd, .slice x.A x.it.length x.c] 34)).cell? ⟨w.heap.size, 5, none⟩ = some (.slice x.A x.it.length x.c) := b0.out.cell 5
  go_wp2_with fail
  refine HC.out.mono ?_
  rintro e w1 ⟨s', n, en, rfl, hr, hp, k1⟩
  have HR := Lib.hid hr
  have HP := Lib.hid hp
  have K1 : Hid (Keeps F w w1) := Lib.hid ((KA.out.mono (by simp)).trans k1 (fun g hg => .inl hg))
  clear hr hp k1 HC c0 c1 c2 c3 c4 c5
  go_wp2_with fail
  go_ret3
  exact ⟨_, s', [], n, en, F, rfl, .nes (by have := KD.out; omega) HR.out, World.ownsRow_nil _ _ _ _, HP.out.mono (by omega), K1.out, fun g hg => .inl hg, by simp⟩
set_option maxRecDepth 100000 in
set_option maxHeartbeats 3200000 in
theorem do11_any (w : World) (F : List Nat) (p : Nat) (s : Pl) (Φ : Nat) (h : PR w F p s Φ) (hΦ : Φ ≤ 800) (hf : Fit s Φ) (x : Op) (hx : OkO x) (hz : ∀ W, Keeps F w W → AtZ W x.A x.it) (hk : bits .and .i64 x.d 15 = 11) :
    Calls Tryz.prog 8 #[.pointer (some ⟨p, 0, none⟩), .agg #[.int .i64 x.d, .int .i64 x.l, .int .i64 x.i, .int .i64 x.t, .int .i64 x.pd, .slice x.A x.it.length x.c]] w (DoQ w F p s Φ x) := by
  have ka : Keeps [] w (w.alloc (.cells #[.int .i64 x.d, .int .i64 x.l, .int .i64 x.i, .int .i64 x.t, .int .i64 x.pd, .slice x.A x.it.length x.c] 34)) := (Keeps.refl _ _).alloc _
  have b0 : Hid (Blk (w.alloc (.cells #[.int .i64 x.d, .int .i64 x.l, .int .i64 x.i, .int .i64 x.t, .int .i64 x.pd, .slice x.A x.it.length x.c] 34)) w.heap.size 34 #[.int .i64 x.d, .int .i64 x.l, .int .i64 x.i, .int .i64 x.t, .int .i64 x.pd, .slice x.A x.it.length x.c]) := Lib.hid (Blk.new w 34 _)
  have hp0 := h.keep0 ka
  have HP0 := Lib.hid hp0
  have KA := Lib.hid ka
  have HX := Lib.hid hx
  have HF := Lib.hid hf
  have HZ := Lib.hid hz
  have KD : Hid (dk x = 11) := Lib.hid (by unfold dk; rw [← and_15]; exact hk)
  have HC := Lib.hid (nest_any _ F p s Φ hp0 (by omega) hf.id x.t x.pd x.A x.it x.c (hz _ (ka.mono (by simp))) hx.it)
  obtain ⟨k, hkk⟩ : ∃ k, bits .and .i64 x.d 15 = k := ⟨_, rfl⟩
  clear h hp0 ka hx hf hz hkk
  go_enter Tryz.func8, Tryz.ntmps8
  have c0 : (w.alloc (.cells #[.int .i64 x.d, .int .i64 x.l, .int .i64 x.i, .int .i64 x.t, .int .i64 x.pd, .slice x.A x.it.length x.c] 34)).cell? ⟨w.heap.size, 0, none⟩ = some (.int .i64 x.d) := b0.out.cell 0
  have c1 : (w.alloc (.cells #[.int .i64 x.d, .int .i64 x.l, .int .i64 x.i, .int .i64 x.t, .int .i64 x.pd, .slice x.A x.it.length x.c] 34)).cell? ⟨w.heap.size, 1, none⟩ = some (.int .i64 x.l) := b0.out.cell 1
  have c2 : (w.alloc (.cells #[.int .i64 x.d, .int .i64 x.l, .int .i64 x.i, .int .i64 x.t, .int .i64 x.pd, .slice x.A x.it.length x.c] 34)).cell? ⟨w.heap.size, 2, none⟩ = some (.int .i64 x.i) := b0.out.cell 2
  have c3 : (w.alloc (.cells #[.int .i64 x.d, .int .i64 x.l, .int .i64 x.i, .int .i64 x.t, .int .i64 x.pd, .slice x.A x.it.length x.c] 34)).cell? ⟨w.heap.size, 3, none⟩ = some (.int .i64 x.t) := b0.out.cell 3
  have c4 : (w.alloc (.cells #[.int .i64 x.d, .int .i64 x.l, .int .i64 x.i, .int .i64 x.t, .int .i64 x.pd, .slice x.A x.it.length x.c] 34)).cell? ⟨w.heap.size, 4, none⟩ = some (.int .i64 x.pd) := b0.out.cell 4
  have c5 : (w.alloc (.cells #[.int .i64 x.d, .int .i64 x.l, .int .i64 x.i, .int .i64 x.t, .int .i64 x.pd, .slice x.A x.it.length x.c] 34)).cell? ⟨w.heap.size, 5, none⟩ = some (.slice x.A x.it.length x.c) := b0.out.cell 5
  go_wp2_with fail
  refine HC.out.mono ?_
  rintro e w1 ⟨s', n, en, rfl, hr, hp, k1⟩
  have HR := Lib.hid hr
  have HP := Lib.hid hp
  have K1 : Hid (Keeps F w w1) := Lib.hid ((KA.out.mono (by simp)).trans k1 (fun g hg => .inl hg))
  clear hr hp k1 HC c0 c1 c2 c3 c4 c5
  go_wp2_with fail
  go_ret3
  exact ⟨_, s', [], n, en, F, rfl, .nes (by have := KD.out; omega) HR.out, World.ownsRow_nil _ _ _ _, HP.out.mono (by omega), K1.out, fun g hg => .inl hg, by simp⟩
set_option maxRecDepth 100000 in
set_option maxHeartbeats 3200000 in
theorem do12_any (w : World) (F : List Nat) (p : Nat) (s : Pl) (Φ : Nat) (h : PR w F p s Φ) (hΦ : Φ ≤ 800) (hf : Fit s Φ) (hy : ∀ l n, s.ln l = some n → ∀ y ∈ n.it, -9223372036854775808 ≤ y ∧ y ≤ 9223372036854775807) (x : Op) (hx : OkO x) (hz : ∀ W, Keeps F w W → AtZ W x.A x.it) (hk : bits .and .i64 x.d 15 = 12) :
    Calls Tryz.prog 8 #[.pointer (some ⟨p, 0, none⟩), .agg #[.int .i64 x.d, .int .i64 x.l, .int .i64 x.i, .int .i64 x.t, .int .i64 x.pd, .slice x.A x.it.length x.c]] w (DoQ w F p s Φ x) := by
  have ka : Keeps [] w (w.alloc (.cells #[.int .i64 x.d, .int .i64 x.l, .int .i64 x.i, .int .i64 x.t, .int .i64 x.pd, .slice x.A x.it.length x.c] 34)) := (Keeps.refl _ _).alloc _
  have b0 : Hid (Blk (w.alloc (.cells #[.int .i64 x.d, .int .i64 x.l, .int .i64 x.i, .int .i64 x.t, .int .i64 x.pd, .slice x.A x.it.length x.c] 34)) w.heap.size 34 #[.int .i64 x.d, .int .i64 x.l, .int .i64 x.i, .int .i64 x.t, .int .i64 x.pd, .slice x.A x.it.length x.c]) := Lib.hid (Blk.new w 34 _)
  have hp0 := h.keep0 ka
  have HP0 := Lib.hid hp0
  have KA := Lib.hid ka
  have HX := Lib.hid hx
  have HF := Lib.hid hf
  have HZ := Lib.hid hz
  have HY : Hid (∀ y, aheadV s x.l = some y → -9223372036854775808 ≤ y ∧ y ≤ 9223372036854775807) := Lib.hid (fun y ha => by
    obtain ⟨n, h1, h2⟩ := ahead_in ha
    exact hy _ n h1 y h2)
  have KD : Hid (dk x = 12) := Lib.hid (by unfold dk; rw [← and_15]; exact hk)
  have HC := Lib.hid (ahead_pr _ F p s Φ hp0 hΦ hf.itl x.l hx.l1 hx.l2)
  obtain ⟨k, hkk⟩ : ∃ k, bits .and .i64 x.d 15 = k := ⟨_, rfl⟩
  clear h hp0 ka hx hf hz hkk hy
  cases ha : aheadV s x.l with
  | none =>
    rw [ha] at HC
    have HAV := Lib.hid ha
    clear ha
    go_enter Tryz.func8, Tryz.ntmps8
    have c0 : (w.alloc (.cells #[.int .i64 x.d, .int .i64 x.l, .int .i64 x.i, .int .i64 x.t, .int .i64 x.pd, .slice x.A x.it.length x.c] 34)).cell? ⟨w.heap.size, 0, none⟩ = some (.int .i64 x.d) := b0.out.cell 0
    have c1 : (w.alloc (.cells #[.int .i64 x.d, .int .i64 x.l, .int .i64 x.i, .int .i64 x.t, .int .i64 x.pd, .slice x.A x.it.length x.c] 34)).cell? ⟨w.heap.size, 1, none⟩ = some (.int .i64 x.l) := b0.out.cell 1
    have c2 : (w.alloc (.cells #[.int .i64 x.d, .int .i64 x.l, .int .i64 x.i, .int .i64 x.t, .int .i64 x.pd, .slice x.A x.it.length x.c] 34)).cell? ⟨w.heap.size, 2, none⟩ = some (.int .i64 x.i) := b0.out.cell 2
    have c3 : (w.alloc (.cells #[.int .i64 x.d, .int .i64 x.l, .int .i64 x.i, .int .i64 x.t, .int .i64 x.pd, .slice x.A x.it.length x.c] 34)).cell? ⟨w.heap.size, 3, none⟩ = some (.int .i64 x.t) := b0.out.cell 3
    have c4 : (w.alloc (.cells #[.int .i64 x.d, .int .i64 x.l, .int .i64 x.i, .int .i64 x.t, .int .i64 x.pd, .slice x.A x.it.length x.c] 34)).cell? ⟨w.heap.size, 4, none⟩ = some (.int .i64 x.pd) := b0.out.cell 4
    have c5 : (w.alloc (.cells #[.int .i64 x.d, .int .i64 x.l, .int .i64 x.i, .int .i64 x.t, .int .i64 x.pd, .slice x.A x.it.length x.c] 34)).cell? ⟨w.heap.size, 5, none⟩ = some (.slice x.A x.it.length x.c) := b0.out.cell 5
    go_wp2_with fail
    refine HC.out.mono ?_
    rintro e w1 ⟨rfl, k1⟩
    have HP := Lib.hid (HP0.out.keep0 k1)
    have K1 : Hid (Keeps F w w1) := Lib.hid ((KA.out.mono (by simp)).trans (k1.mono (by simp)) (fun g hg => .inl hg))
    clear k1 HC c0 c1 c2 c3 c4 c5
    go_wp2_with fail
    go_ret3
    exact ⟨_, s, [], 0, 4, F, rfl, .ahn (by have := KD.out; omega) HAV.out, World.ownsRow_nil _ _ _ _, HP.out.mono (by omega), K1.out, fun g hg => .inl hg, by simp⟩
  | some y =>
    rw [ha] at HC
    have HAV := Lib.hid ha
    clear ha
    go_enter Tryz.func8, Tryz.ntmps8
    have c0 : (w.alloc (.cells #[.int .i64 x.d, .int .i64 x.l, .int .i64 x.i, .int .i64 x.t, .int .i64 x.pd, .slice x.A x.it.length x.c] 34)).cell? ⟨w.heap.size, 0, none⟩ = some (.int .i64 x.d) := b0.out.cell 0
    have c1 : (w.alloc (.cells #[.int .i64 x.d, .int .i64 x.l, .int .i64 x.i, .int .i64 x.t, .int .i64 x.pd, .slice x.A x.it.length x.c] 34)).cell? ⟨w.heap.size, 1, none⟩ = some (.int .i64 x.l) := b0.out.cell 1
    have c2 : (w.alloc (.cells #[.int .i64 x.d, .int .i64 x.l, .int .i64 x.i, .int .i64 x.t, .int .i64 x.pd, .slice x.A x.it.length x.c] 34)).cell? ⟨w.heap.size, 2, none⟩ = some (.int .i64 x.i) := b0.out.cell 2
    have c3 : (w.alloc (.cells #[.int .i64 x.d, .int .i64 x.l, .int .i64 x.i, .int .i64 x.t, .int .i64 x.pd, .slice x.A x.it.length x.c] 34)).cell? ⟨w.heap.size, 3, none⟩ = some (.int .i64 x.t) := b0.out.cell 3
    have c4 : (w.alloc (.cells #[.int .i64 x.d, .int .i64 x.l, .int .i64 x.i, .int .i64 x.t, .int .i64 x.pd, .slice x.A x.it.length x.c] 34)).cell? ⟨w.heap.size, 4, none⟩ = some (.int .i64 x.pd) := b0.out.cell 4
    have c5 : (w.alloc (.cells #[.int .i64 x.d, .int .i64 x.l, .int .i64 x.i, .int .i64 x.t, .int .i64 x.pd, .slice x.A x.it.length x.c] 34)).cell? ⟨w.heap.size, 5, none⟩ = some (.slice x.A x.it.length x.c) := b0.out.cell 5
    go_wp2_with fail
    refine HC.out.mono ?_
    rintro e w1 ⟨rfl, k1⟩
    have hp1 := HP0.out.keep0 k1
    have K1 : Hid (Keeps F w w1) := Lib.hid ((KA.out.mono (by simp)).trans (k1.mono (by simp)) (fun g hg => .inl hg))
    have b1 := b0.out.keep k1 (by simp)
    clear k1 HC c0 c1 c2 c3 c4 c5
    have c1 : w1.cell? ⟨w.heap.size, 1, none⟩ = some (.int .i64 x.l) := b1.cell 1
    have c3 : w1.cell? ⟨w.heap.size, 3, none⟩ = some (.int .i64 x.t) := b1.cell 3
    have hyr : -9223372036854775808 ≤ y ∧ y ≤ 9223372036854775807 := HY.out y HAV.out
    have HB := Lib.hid (began_any w1 F p s Φ hp1 (by omega) HF.out.itl _ (by have := HF.out.cp.choose_spec.2; omega) HF.out.cp.choose_spec.1 x.l y x.t HX.out.l1 HX.out.l2 hyr.1 hyr.2)
    clear hp1 b1
    go_wp2_with fail
    refine HB.out.mono ?_
    rintro e w2 ⟨rfl, F1, hp, k2, hf1⟩
    have HP := Lib.hid hp
    have HFF : Hid (∀ g ∈ F1, g ∈ F ∨ w.heap.size ≤ g) := Lib.hid (fun g hg => (hf1 g hg).elim .inl (fun h => .inr (Nat.le_trans K1.out.size h)))
    have K2 : Hid (Keeps F w w2) := Lib.hid (K1.out.trans k2 (fun g hg => .inl hg))
    clear hp k2 hf1 HB c1 c3
    go_wp2_with fail
    go_ret3
    exact ⟨_, _, [], y, _, F1, rfl, .ahb (by have := KD.out; omega) HAV.out, World.ownsRow_nil _ _ _ _, HP.out, K2.out, HFF.out, by simp⟩
set_option maxRecDepth 100000 in
set_option maxHeartbeats 3200000 in
theorem do13_any (w : World) (F : List Nat) (p : Nat) (s : Pl) (Φ : Nat) (h : PR w F p s Φ) (hΦ : Φ ≤ 800) (hf : Fit s Φ) (hy : ∀ l n, s.ln l = some n → ∀ y ∈ n.it, -9223372036854775808 ≤ y ∧ y ≤ 9223372036854775807) (x : Op) (hx : OkO x) (hz : ∀ W, Keeps F w W → AtZ W x.A x.it) (hk : bits .and .i64 x.d 15 = 13) :
    Calls Tryz.prog 8 #[.pointer (some ⟨p, 0, none⟩), .agg #[.int .i64 x.d, .int .i64 x.l, .int .i64 x.i, .int .i64 x.t, .int .i64 x.pd, .slice x.A x.it.length x.c]] w (DoQ w F p s Φ x) := by
  have ka : Keeps [] w (w.alloc (.cells #[.int .i64 x.d, .int .i64 x.l, .int .i64 x.i, .int .i64 x.t, .int .i64 x.pd, .slice x.A x.it.length x.c] 34)) := (Keeps.refl _ _).alloc _
  have b0 : Hid (Blk (w.alloc (.cells #[.int .i64 x.d, .int .i64 x.l, .int .i64 x.i, .int .i64 x.t, .int .i64 x.pd, .slice x.A x.it.length x.c] 34)) w.heap.size 34 #[.int .i64 x.d, .int .i64 x.l, .int .i64 x.i, .int .i64 x.t, .int .i64 x.pd, .slice x.A x.it.length x.c]) := Lib.hid (Blk.new w 34 _)
  have hp0 := h.keep0 ka
  have HP0 := Lib.hid hp0
  have KA := Lib.hid ka
  have HX := Lib.hid hx
  have HF := Lib.hid hf
  have HZ := Lib.hid hz
  have HY : Hid (∀ y, aheadV s x.l = some y → -9223372036854775808 ≤ y ∧ y ≤ 9223372036854775807) := Lib.hid (fun y ha => by
    obtain ⟨n, h1, h2⟩ := ahead_in ha
    exact hy _ n h1 y h2)
  have KD : Hid (dk x = 13) := Lib.hid (by unfold dk; rw [← and_15]; exact hk)
  have HC := Lib.hid (ahead_pr _ F p s Φ hp0 hΦ hf.itl x.l hx.l1 hx.l2)
  obtain ⟨k, hkk⟩ : ∃ k, bits .and .i64 x.d 15 = k := ⟨_, rfl⟩
  clear h hp0 ka hx hf hz hkk hy
  cases ha : aheadV s x.l with
  | none =>
    rw [ha] at HC
    have HAV := Lib.hid ha
    clear ha
    go_enter Tryz.func8, Tryz.ntmps8
    have c0 : (w.alloc (.cells #[.int .i64 x.d, .int .i64 x.l, .int .i64 x.i, .int .i64 x.t, .int .i64 x.pd, .slice x.A x.it.length x.c] 34)).cell? ⟨w.heap.size, 0, none⟩ = some (.int .i64 x.d) := b0.out.cell 0
    have c1 : (w.alloc (.cells #[.int .i64 x.d, .int .i64 x.l, .int .i64 x.i, .int .i64 x.t, .int .i64 x.pd, .slice x.A x.it.length x.c] 34)).cell? ⟨w.heap.size, 1, none⟩ = some (.int .i64 x.l) := b0.out.cell 1
    have c2 : (w.alloc (.cells #[.int .i64 x.d, .int .i64 x.l, .int .i64 x.i, .int .i64 x.t, .int .i64 x.pd, .slice x.A x.it.length x.c] 34)).cell? ⟨w.heap.size, 2, none⟩ = some (.int .i64 x.i) := b0.out.cell 2
    have c3 : (w.alloc (.cells #[.int .i64 x.d, .int .i64 x.l, .int .i64 x.i, .int .i64 x.t, .int .i64 x.pd, .slice x.A x.it.length x.c] 34)).cell? ⟨w.heap.size, 3, none⟩ = some (.int .i64 x.t) := b0.out.cell 3
    have c4 : (w.alloc (.cells #[.int .i64 x.d, .int .i64 x.l, .int .i64 x.i, .int .i64 x.t, .int .i64 x.pd, .slice x.A x.it.length x.c] 34)).cell? ⟨w.heap.size, 4, none⟩ = some (.int .i64 x.pd) := b0.out.cell 4
    have c5 : (w.alloc (.cells #[.int .i64 x.d, .int .i64 x.l, .int .i64 x.i, .int .i64 x.t, .int .i64 x.pd, .slice x.A x.it.length x.c] 34)).cell? ⟨w.heap.size, 5, none⟩ = some (.slice x.A x.it.length x.c) := b0.out.cell 5
    go_wp2_with fail
    refine HC.out.mono ?_
    rintro e w1 ⟨rfl, k1⟩
    have HP := Lib.hid (HP0.out.keep0 k1)
    have K1 : Hid (Keeps F w w1) := Lib.hid ((KA.out.mono (by simp)).trans (k1.mono (by simp)) (fun g hg => .inl hg))
    clear k1 HC c0 c1 c2 c3 c4 c5
    go_wp2_with fail
    go_ret3
    exact ⟨_, s, [], 0, 4, F, rfl, .ahn (by have := KD.out; omega) HAV.out, World.ownsRow_nil _ _ _ _, HP.out.mono (by omega), K1.out, fun g hg => .inl hg, by simp⟩
  | some y =>
    rw [ha] at HC
    have HAV := Lib.hid ha
    clear ha
    go_enter Tryz.func8, Tryz.ntmps8
    have c0 : (w.alloc (.cells #[.int .i64 x.d, .int .i64 x.l, .int .i64 x.i, .int .i64 x.t, .int .i64 x.pd, .slice x.A x.it.length x.c] 34)).cell? ⟨w.heap.size, 0, none⟩ = some (.int .i64 x.d) := b0.out.cell 0
    have c1 : (w.alloc (.cells #[.int .i64 x.d, .int .i64 x.l, .int .i64 x.i, .int .i64 x.t, .int .i64 x.pd, .slice x.A x.it.length x.c] 34)).cell? ⟨w.heap.size, 1, none⟩ = some (.int .i64 x.l) := b0.out.cell 1
    have c2 : (w.alloc (.cells #[.int .i64 x.d, .int .i64 x.l, .int .i64 x.i, .int .i64 x.t, .int .i64 x.pd, .slice x.A x.it.length x.c] 34)).cell? ⟨w.heap.size, 2, none⟩ = some (.int .i64 x.i) := b0.out.cell 2
    have c3 : (w.alloc (.cells #[.int .i64 x.d, .int .i64 x.l, .int .i64 x.i, .int .i64 x.t, .int .i64 x.pd, .slice x.A x.it.length x.c] 34)).cell? ⟨w.heap.size, 3, none⟩ = some (.int .i64 x.t) := b0.out.cell 3
    have c4 : (w.alloc (.cells #[.int .i64 x.d, .int .i64 x.l, .int .i64 x.i, .int .i64 x.t, .int .i64 x.pd, .slice x.A x.it.length x.c] 34)).cell? ⟨w.heap.size, 4, none⟩ = some (.int .i64 x.pd) := b0.out.cell 4
    have c5 : (w.alloc (.cells #[.int .i64 x.d, .int .i64 x.l, .int .i64 x.i, .int .i64 x.t, .int .i64 x.pd, .slice x.A x.it.length x.c] 34)).cell? ⟨w.heap.size, 5, none⟩ = some (.slice x.A x.it.length x.c) := b0.out.cell 5
    go_wp2_with fail
    refine HC.out.mono ?_
    rintro e w1 ⟨rfl, k1⟩
    have hp1 := HP0.out.keep0 k1
    have K1 : Hid (Keeps F w w1) := Lib.hid ((KA.out.mono (by simp)).trans (k1.mono (by simp)) (fun g hg => .inl hg))
    have b1 := b0.out.keep k1 (by simp)
    clear k1 HC c0 c1 c2 c3 c4 c5
    have c1 : w1.cell? ⟨w.heap.size, 1, none⟩ = some (.int .i64 x.l) := b1.cell 1
    have c3 : w1.cell? ⟨w.heap.size, 3, none⟩ = some (.int .i64 x.t) := b1.cell 3
    have hyr : -9223372036854775808 ≤ y ∧ y ≤ 9223372036854775807 := HY.out y HAV.out
    have HB := Lib.hid (began_any w1 F p s Φ hp1 (by omega) HF.out.itl _ (by have := HF.out.cp.choose_spec.2; omega) HF.out.cp.choose_spec.1 x.l y x.t HX.out.l1 HX.out.l2 hyr.1 hyr.2)
    clear hp1 b1
    go_wp2_with fail
    refine HB.out.mono ?_
    rintro e w2 ⟨rfl, F1, hp, k2, hf1⟩
    have HP := Lib.hid hp
    have HFF : Hid (∀ g ∈ F1, g ∈ F ∨ w.heap.size ≤ g) := Lib.hid (fun g hg => (hf1 g hg).elim .inl (fun h => .inr (Nat.le_trans K1.out.size h)))
    have K2 : Hid (Keeps F w w2) := Lib.hid (K1.out.trans k2 (fun g hg => .inl hg))
    clear hp k2 hf1 HB c1 c3
    go_wp2_with fail
    go_ret3
    exact ⟨_, _, [], y, _, F1, rfl, .ahb (by have := KD.out; omega) HAV.out, World.ownsRow_nil _ _ _ _, HP.out, K2.out, HFF.out, by simp⟩
set_option maxRecDepth 100000 in
set_option maxHeartbeats 3200000 in
theorem do14_any (w : World) (F : List Nat) (p : Nat) (s : Pl) (Φ : Nat) (h : PR w F p s Φ) (hΦ : Φ ≤ 800) (hf : Fit s Φ) (hy : ∀ l n, s.ln l = some n → ∀ y ∈ n.it, -9223372036854775808 ≤ y ∧ y ≤ 9223372036854775807) (x : Op) (hx : OkO x) (hz : ∀ W, Keeps F w W → AtZ W x.A x.it) (hk : bits .and .i64 x.d 15 = 14) :
    Calls Tryz.prog 8 #[.pointer (some ⟨p, 0, none⟩), .agg #[.int .i64 x.d, .int .i64 x.l, .int .i64 x.i, .int .i64 x.t, .int .i64 x.pd, .slice x.A x.it.length x.c]] w (DoQ w F p s Φ x) := by
  have ka : Keeps [] w (w.alloc (.cells #[.int .i64 x.d, .int .i64 x.l, .int .i64 x.i, .int .i64 x.t, .int .i64 x.pd, .slice x.A x.it.length x.c] 34)) := (Keeps.refl _ _).alloc _
  have b0 : Hid (Blk (w.alloc (.cells #[.int .i64 x.d, .int .i64 x.l, .int .i64 x.i, .int .i64 x.t, .int .i64 x.pd, .slice x.A x.it.length x.c] 34)) w.heap.size 34 #[.int .i64 x.d, .int .i64 x.l, .int .i64 x.i, .int .i64 x.t, .int .i64 x.pd, .slice x.A x.it.length x.c]) := Lib.hid (Blk.new w 34 _)
  have hp0 := h.keep0 ka
  have HP0 := Lib.hid hp0
  have KA := Lib.hid ka
  have HX := Lib.hid hx
  have HF := Lib.hid hf
  have HZ := Lib.hid hz
  have HY : Hid (∀ y, aheadV s x.l = some y → -9223372036854775808 ≤ y ∧ y ≤ 9223372036854775807) := Lib.hid (fun y ha => by
    obtain ⟨n, h1, h2⟩ := ahead_in ha
    exact hy _ n h1 y h2)
  have KD : Hid (dk x = 14) := Lib.hid (by unfold dk; rw [← and_15]; exact hk)
  have HC := Lib.hid (ahead_pr _ F p s Φ hp0 hΦ hf.itl x.l hx.l1 hx.l2)
  obtain ⟨k, hkk⟩ : ∃ k, bits .and .i64 x.d 15 = k := ⟨_, rfl⟩
  clear h hp0 ka hx hf hz hkk hy
  cases ha : aheadV s x.l with
  | none =>
    rw [ha] at HC
    have HAV := Lib.hid ha
    clear ha
    go_enter Tryz.func8, Tryz.ntmps8
    have c0 : (w.alloc (.cells #[.int .i64 x.d, .int .i64 x.l, .int .i64 x.i, .int .i64 x.t, .int .i64 x.pd, .slice x.A x.it.length x.c] 34)).cell? ⟨w.heap.size, 0, none⟩ = some (.int .i64 x.d) := b0.out.cell 0
    have c1 : (w.alloc (.cells #[.int .i64 x.d, .int .i64 x.l, .int .i64 x.i, .int .i64 x.t, .int .i64 x.pd, .slice x.A x.it.length x.c] 34)).cell? ⟨w.heap.size, 1, none⟩ = some (.int .i64 x.l) := b0.out.cell 1
    have c2 : (w.alloc (.cells #[.int .i64 x.d, .int .i64 x.l, .int .i64 x.i, .int .i64 x.t, .int .i64 x.pd, .slice x.A x.it.length x.c] 34)).cell? ⟨w.heap.size, 2, none⟩ = some (.int .i64 x.i) := b0.out.cell 2
    have c3 : (w.alloc (.cells #[.int .i64 x.d, .int .i64 x.l, .int .i64 x.i, .int .i64 x.t, .int .i64 x.pd, .slice x.A x.it.length x.c] 34)).cell? ⟨w.heap.size, 3, none⟩ = some (.int .i64 x.t) := b0.out.cell 3
    have c4 : (w.alloc (.cells #[.int .i64 x.d, .int .i64 x.l, .int .i64 x.i, .int .i64 x.t, .int .i64 x.pd, .slice x.A x.it.length x.c] 34)).cell? ⟨w.heap.size, 4, none⟩ = some (.int .i64 x.pd) := b0.out.cell 4
    have c5 : (w.alloc (.cells #[.int .i64 x.d, .int .i64 x.l, .int .i64 x.i, .int .i64 x.t, .int .i64 x.pd, .slice x.A x.it.length x.c] 34)).cell? ⟨w.heap.size, 5, none⟩ = some (.slice x.A x.it.length x.c) := b0.out.cell 5
    go_wp2_with fail
    refine HC.out.mono ?_
    rintro e w1 ⟨rfl, k1⟩
    have HP := Lib.hid (HP0.out.keep0 k1)
    have K1 : Hid (Keeps F w w1) := Lib.hid ((KA.out.mono (by simp)).trans (k1.mono (by simp)) (fun g hg => .inl hg))
    clear k1 HC c0 c1 c2 c3 c4 c5
    go_wp2_with fail
    go_ret3
    exact ⟨_, s, [], 0, 4, F, rfl, .ahn (by have := KD.out; omega) HAV.out, World.ownsRow_nil _ _ _ _, HP.out.mono (by omega), K1.out, fun g hg => .inl hg, by simp⟩
  | some y =>
    rw [ha] at HC
    have HAV := Lib.hid ha
    clear ha
    go_enter Tryz.func8, Tryz.ntmps8
    have c0 : (w.alloc (.cells #[.int .i64 x.d, .int .i64 x.l, .int .i64 x.i, .int .i64 x.t, .int .i64 x.pd, .slice x.A x.it.length x.c] 34)).cell? ⟨w.heap.size, 0, none⟩ = some (.int .i64 x.d) := b0.out.cell 0
    have c1 : (w.alloc (.cells #[.int .i64 x.d, .int .i64 x.l, .int .i64 x.i, .int .i64 x.t, .int .i64 x.pd, .slice x.A x.it.length x.c] 34)).cell? ⟨w.heap.size, 1, none⟩ = some (.int .i64 x.l) := b0.out.cell 1
    have c2 : (w.alloc (.cells #[.int .i64 x.d, .int .i64 x.l, .int .i64 x.i, .int .i64 x.t, .int .i64 x.pd, .slice x.A x.it.length x.c] 34)).cell? ⟨w.heap.size, 2, none⟩ = some (.int .i64 x.i) := b0.out.cell 2
    have c3 : (w.alloc (.cells #[.int .i64 x.d, .int .i64 x.l, .int .i64 x.i, .int .i64 x.t, .int .i64 x.pd, .slice x.A x.it.length x.c] 34)).cell? ⟨w.heap.size, 3, none⟩ = some (.int .i64 x.t) := b0.out.cell 3
    have c4 : (w.alloc (.cells #[.int .i64 x.d, .int .i64 x.l, .int .i64 x.i, .int .i64 x.t, .int .i64 x.pd, .slice x.A x.it.length x.c] 34)).cell? ⟨w.heap.size, 4, none⟩ = some (.int .i64 x.pd) := b0.out.cell 4
    have c5 : (w.alloc (.cells #[.int .i64 x.d, .int .i64 x.l, .int .i64 x.i, .int .i64 x.t, .int .i64 x.pd, .slice x.A x.it.length x.c] 34)).cell? ⟨w.heap.size, 5, none⟩ = some (.slice x.A x.it.length x.c) := b0.out.cell 5
    go_wp2_with fail
    refine HC.out.mono ?_
    rintro e w1 ⟨rfl, k1⟩
    have hp1 := HP0.out.keep0 k1
    have K1 : Hid (Keeps F w w1) := Lib.hid ((KA.out.mono (by simp)).trans (k1.mono (by simp)) (fun g hg => .inl hg))
    have b1 := b0.out.keep k1 (by simp)
    clear k1 HC c0 c1 c2 c3 c4 c5
    have c1 : w1.cell? ⟨w.heap.size, 1, none⟩ = some (.int .i64 x.l) := b1.cell 1
    have c3 : w1.cell? ⟨w.heap.size, 3, none⟩ = some (.int .i64 x.t) := b1.cell 3
    have hyr : -9223372036854775808 ≤ y ∧ y ≤ 9223372036854775807 := HY.out y HAV.out
    have HB := Lib.hid (began_any w1 F p s Φ hp1 (by omega) HF.out.itl _ (by have := HF.out.cp.choose_spec.2; omega) HF.out.cp.choose_spec.1 x.l y x.t HX.out.l1 HX.out.l2 hyr.1 hyr.2)
    clear hp1 b1
    go_wp2_with fail
    refine HB.out.mono ?_
    rintro e w2 ⟨rfl, F1, hp, k2, hf1⟩
    have HP := Lib.hid hp
    have HFF : Hid (∀ g ∈ F1, g ∈ F ∨ w.heap.size ≤ g) := Lib.hid (fun g hg => (hf1 g hg).elim .inl (fun h => .inr (Nat.le_trans K1.out.size h)))
    have K2 : Hid (Keeps F w w2) := Lib.hid (K1.out.trans k2 (fun g hg => .inl hg))
    clear hp k2 hf1 HB c1 c3
    go_wp2_with fail
    go_ret3
    exact ⟨_, _, [], y, _, F1, rfl, .ahb (by have := KD.out; omega) HAV.out, World.ownsRow_nil _ _ _ _, HP.out, K2.out, HFF.out, by simp⟩
set_option maxRecDepth 100000 in
set_option maxHeartbeats 3200000 in
theorem do15_any (w : World) (F : List Nat) (p : Nat) (s : Pl) (Φ : Nat) (h : PR w F p s Φ) (hΦ : Φ ≤ 800) (hf : Fit s Φ) (hy : ∀ l n, s.ln l = some n → ∀ y ∈ n.it, -9223372036854775808 ≤ y ∧ y ≤ 9223372036854775807) (x : Op) (hx : OkO x) (hz : ∀ W, Keeps F w W → AtZ W x.A x.it) (hk : bits .and .i64 x.d 15 = 15) :
    Calls Tryz.prog 8 #[.pointer (some ⟨p, 0, none⟩), .agg #[.int .i64 x.d, .int .i64 x.l, .int .i64 x.i, .int .i64 x.t, .int .i64 x.pd, .slice x.A x.it.length x.c]] w (DoQ w F p s Φ x) := by
  have ka : Keeps [] w (w.alloc (.cells #[.int .i64 x.d, .int .i64 x.l, .int .i64 x.i, .int .i64 x.t, .int .i64 x.pd, .slice x.A x.it.length x.c] 34)) := (Keeps.refl _ _).alloc _
  have b0 : Hid (Blk (w.alloc (.cells #[.int .i64 x.d, .int .i64 x.l, .int .i64 x.i, .int .i64 x.t, .int .i64 x.pd, .slice x.A x.it.length x.c] 34)) w.heap.size 34 #[.int .i64 x.d, .int .i64 x.l, .int .i64 x.i, .int .i64 x.t, .int .i64 x.pd, .slice x.A x.it.length x.c]) := Lib.hid (Blk.new w 34 _)
  have hp0 := h.keep0 ka
  have HP0 := Lib.hid hp0
  have KA := Lib.hid ka
  have HX := Lib.hid hx
  have HF := Lib.hid hf
  have HZ := Lib.hid hz
  have HY : Hid (∀ y, aheadV s x.l = some y → -9223372036854775808 ≤ y ∧ y ≤ 9223372036854775807) := Lib.hid (fun y ha => by
    obtain ⟨n, h1, h2⟩ := ahead_in ha
    exact hy _ n h1 y h2)
  have KD : Hid (dk x = 15) := Lib.hid (by unfold dk; rw [← and_15]; exact hk)
  have HC := Lib.hid (ahead_pr _ F p s Φ hp0 hΦ hf.itl x.l hx.l1 hx.l2)
  obtain ⟨k, hkk⟩ : ∃ k, bits .and .i64 x.d 15 = k := ⟨_, rfl⟩
  clear h hp0 ka hx hf hz hkk hy
  cases ha : aheadV s x.l with
  | none =>
    rw [ha] at HC
    have HAV := Lib.hid ha
    clear ha
    go_enter Tryz.func8, Tryz.ntmps8
    have c0 : (w.alloc (.cells #[.int .i64 x.d, .int .i64 x.l, .int .i64 x.i, .int .i64 x.t, .int .i64 x.pd, .slice x.A x.it.length x.c] 34)).cell? ⟨w.heap.size, 0, none⟩ = some (.int .i64 x.d) := b0.out.cell 0
    have c1 : (w.alloc (.cells #[.int .i64 x.d, .int .i64 x.l, .int .i64 x.i, .int .i64 x.t, .int .i64 x.pd, .slice x.A x.it.length x.c] 34)).cell? ⟨w.heap.size, 1, none⟩ = some (.int .i64 x.l) := b0.out.cell 1
    have c2 : (w.alloc (.cells #[.int .i64 x.d, .int .i64 x.l, .int .i64 x.i, .int .i64 x.t, .int .i64 x.pd, .slice x.A x.it.length x.c] 34)).cell? ⟨w.heap.size, 2, none⟩ = some (.int .i64 x.i) := b0.out.cell 2
    have c3 : (w.alloc (.cells #[.int .i64 x.d, .int .i64 x.l, .int .i64 x.i, .int .i64 x.t, .int .i64 x.pd, .slice x.A x.it.length x.c] 34)).cell? ⟨w.heap.size, 3, none⟩ = some (.int .i64 x.t) := b0.out.cell 3
    have c4 : (w.alloc (.cells #[.int .i64 x.d, .int .i64 x.l, .int .i64 x.i, .int .i64 x.t, .int .i64 x.pd, .slice x.A x.it.length x.c] 34)).cell? ⟨w.heap.size, 4, none⟩ = some (.int .i64 x.pd) := b0.out.cell 4
    have c5 : (w.alloc (.cells #[.int .i64 x.d, .int .i64 x.l, .int .i64 x.i, .int .i64 x.t, .int .i64 x.pd, .slice x.A x.it.length x.c] 34)).cell? ⟨w.heap.size, 5, none⟩ = some (.slice x.A x.it.length x.c) := b0.out.cell 5
    go_wp2_with fail
    refine HC.out.mono ?_
    rintro e w1 ⟨rfl, k1⟩
    have HP := Lib.hid (HP0.out.keep0 k1)
    have K1 : Hid (Keeps F w w1) := Lib.hid ((KA.out.mono (by simp)).trans (k1.mono (by simp)) (fun g hg => .inl hg))
    clear k1 HC c0 c1 c2 c3 c4 c5
    go_wp2_with fail
    go_ret3
    exact ⟨_, s, [], 0, 4, F, rfl, .ahn (by have := KD.out; omega) HAV.out, World.ownsRow_nil _ _ _ _, HP.out.mono (by omega), K1.out, fun g hg => .inl hg, by simp⟩
  | some y =>
    rw [ha] at HC
    have HAV := Lib.hid ha
    clear ha
    go_enter Tryz.func8, Tryz.ntmps8
    have c0 : (w.alloc (.cells #[.int .i64 x.d, .int .i64 x.l, .int .i64 x.i, .int .i64 x.t, .int .i64 x.pd, .slice x.A x.it.length x.c] 34)).cell? ⟨w.heap.size, 0, none⟩ = some (.int .i64 x.d) := b0.out.cell 0
    have c1 : (w.alloc (.cells #[.int .i64 x.d, .int .i64 x.l, .int .i64 x.i, .int .i64 x.t, .int .i64 x.pd, .slice x.A x.it.length x.c] 34)).cell? ⟨w.heap.size, 1, none⟩ = some (.int .i64 x.l) := b0.out.cell 1
    have c2 : (w.alloc (.cells #[.int .i64 x.d, .int .i64 x.l, .int .i64 x.i, .int .i64 x.t, .int .i64 x.pd, .slice x.A x.it.length x.c] 34)).cell? ⟨w.heap.size, 2, none⟩ = some (.int .i64 x.i) := b0.out.cell 2
    have c3 : (w.alloc (.cells #[.int .i64 x.d, .int .i64 x.l, .int .i64 x.i, .int .i64 x.t, .int .i64 x.pd, .slice x.A x.it.length x.c] 34)).cell? ⟨w.heap.size, 3, none⟩ = some (.int .i64 x.t) := b0.out.cell 3
    have c4 : (w.alloc (.cells #[.int .i64 x.d, .int .i64 x.l, .int .i64 x.i, .int .i64 x.t, .int .i64 x.pd, .slice x.A x.it.length x.c] 34)).cell? ⟨w.heap.size, 4, none⟩ = some (.int .i64 x.pd) := b0.out.cell 4
    have c5 : (w.alloc (.cells #[.int .i64 x.d, .int .i64 x.l, .int .i64 x.i, .int .i64 x.t, .int .i64 x.pd, .slice x.A x.it.length x.c] 34)).cell? ⟨w.heap.size, 5, none⟩ = some (.slice x.A x.it.length x.c) := b0.out.cell 5
    go_wp2_with fail
    refine HC.out.mono ?_
    rintro e w1 ⟨rfl, k1⟩
    have hp1 := HP0.out.keep0 k1
    have K1 : Hid (Keeps F w w1) := Lib.hid ((KA.out.mono (by simp)).trans (k1.mono (by simp)) (fun g hg => .inl hg))
    have b1 := b0.out.keep k1 (by simp)
    clear k1 HC c0 c1 c2 c3 c4 c5
    have c1 : w1.cell? ⟨w.heap.size, 1, none⟩ = some (.int .i64 x.l) := b1.cell 1
    have c3 : w1.cell? ⟨w.heap.size, 3, none⟩ = some (.int .i64 x.t) := b1.cell 3
    have hyr : -9223372036854775808 ≤ y ∧ y ≤ 9223372036854775807 := HY.out y HAV.out
    have HB := Lib.hid (began_any w1 F p s Φ hp1 (by omega) HF.out.itl _ (by have := HF.out.cp.choose_spec.2; omega) HF.out.cp.choose_spec.1 x.l y x.t HX.out.l1 HX.out.l2 hyr.1 hyr.2)
    clear hp1 b1
    go_wp2_with fail
    refine HB.out.mono ?_
    rintro e w2 ⟨rfl, F1, hp, k2, hf1⟩
    have HP := Lib.hid hp
    have HFF : Hid (∀ g ∈ F1, g ∈ F ∨ w.heap.size ≤ g) := Lib.hid (fun g hg => (hf1 g hg).elim .inl (fun h => .inr (Nat.le_trans K1.out.size h)))
    have K2 : Hid (Keeps F w w2) := Lib.hid (K1.out.trans k2 (fun g hg => .inl hg))
    clear hp k2 hf1 HB c1 c3
    go_wp2_with fail
    go_ret3
    exact ⟨_, _, [], y, _, F1, rfl, .ahb (by have := KD.out; omega) HAV.out, World.ownsRow_nil _ _ _ _, HP.out, K2.out, HFF.out, by simp⟩
theorem do_any (w : World) (F : List Nat) (p : Nat) (s : Pl) (Φ : Nat) (h : PR w F p s Φ) (hΦ : Φ ≤ 800) (hv : Inv NoR s) (hc : Cap Φ s) (x : Op) (hx : OkO x) (hz : ∀ W, Keeps F w W → AtZ W x.A x.it) :
    Calls Tryz.prog 8 #[.pointer (some ⟨p, 0, none⟩), .agg #[.int .i64 x.d, .int .i64 x.l, .int .i64 x.i, .int .i64 x.t, .int .i64 x.pd, .slice x.A x.it.length x.c]] w (DoQ w F p s Φ x) := by
  have hf := hv.fit hc
  have hy : ∀ l n, s.ln l = some n → ∀ y ∈ n.it, -9223372036854775808 ≤ y ∧ y ≤ 9223372036854775807 := fun l n hn y hy => by
    have := (rightL_ok (hv.c.it l n hn)).1 y hy
    omega
  have e := and_15 x.d
  have h0 : 0 ≤ x.d % 16 := Int.emod_nonneg _ (by omega)
  have h1 : x.d % 16 < 16 := Int.emod_lt_of_pos _ (by omega)
  obtain ⟨k, hk⟩ : ∃ k, x.d % 16 = k := ⟨_, rfl⟩
  rw [hk] at e h0 h1
  have hcs : k = 0 ∨ k = 1 ∨ k = 2 ∨ k = 3 ∨ k = 4 ∨ k = 5 ∨ k = 6 ∨ k = 7 ∨ k = 8 ∨ k = 9 ∨ k = 10 ∨ k = 11 ∨ k = 12 ∨ k = 13 ∨ k = 14 ∨ k = 15 := by omega
  rcases hcs with rfl | rfl | rfl | rfl | rfl | rfl | rfl | rfl | rfl | rfl | rfl | rfl | rfl | rfl | rfl | rfl
  · exact do0_any w F p s Φ h hΦ hf x hx hz e
  · exact do1_any w F p s Φ h hΦ hf x hx hz e
  · exact do2_any w F p s Φ h hΦ hf x hx hz e
  · exact do3_any w F p s Φ h hΦ hf x hx hz e
  · exact do4_any w F p s Φ h hΦ hf x hx hz e
  · exact do5_any w F p s Φ h hΦ hf x hx hz e
  · exact do6_any w F p s Φ h hΦ hf x hx hz e
  · exact do7_any w F p s Φ h hΦ hf x hx hz e
  · exact do8_any w F p s Φ h hΦ hf x hx hz e
  · exact do9_any w F p s Φ h hΦ hf x hx hz e
  · exact do10_any w F p s Φ h hΦ hf x hx hz e
  · exact do11_any w F p s Φ h hΦ hf x hx hz e
  · exact do12_any w F p s Φ h hΦ hf hy x hx hz e
  · exact do13_any w F p s Φ h hΦ hf hy x hx hz e
  · exact do14_any w F p s Φ h hΦ hf hy x hx hz e
  · exact do15_any w F p s Φ h hΦ hf hy x hx hz e
end Go.Proofs.YtcopjjokhjealaaGreat
