/- The reference's cache: Look, and the operations. -/
import Derived.Test.YtkfcoemdpcjhfaaE3
namespace Go.Proofs.Ytkfcoemdpcjhfaa
open Go.RowKit

set_option maxRecDepth 100000 in
set_option maxHeartbeats 3200000 in
theorem rlook_any (w0 : World) (F : List Nat) (p : Nat) (s : Tl) (a b : Int) (wr : Bool) (hn : s.n ≤ 1000) (h : TlRep 46 w0 F p s) :
    Calls Try.prog 31 #[.pointer (some ⟨p, 0, none⟩), .int .i64 a, .int .i64 b, .bool wr] w0 fun e w' => e = .returned (.tuple #[.int .i64 (s.lookR a b wr).1, .bool (s.lookR a b wr).2]) ∧ Next 46 w0 w' F p (s.look a b wr) := by
  have HP := Lib.hid (rplace_any w0 F p s a b hn h)
  have HR := Lib.hid h
  cases hf : s.L.findIdx? (fun e => e.is a b) with
  | none =>
    rw [fidx_none hf] at HP
    have e1 : s.look a b wr = s := by unfold Tl.look Tl.hit; rw [hf]
    have e2 : s.lookR a b wr = (0, false) := by unfold Tl.lookR Tl.hit; rw [hf]
    have HE := Lib.hid (And.intro e1 e2)
    clear hf e1 e2 h
    go_enter Try.func31, Try.ntmps31
    go_wp2_with fail
    refine HP.out.mono ?_
    rintro e w1 ⟨rfl, k1⟩
    go_wp2_with fail
    go_ret2
    obtain ⟨e1, e2⟩ := HE.out
    rw [e1, e2]
    exact ⟨rfl, .same (HR.out.keep k1 (by simp)) (k1.mono (by simp))⟩
  | some k =>
  have hkl : k < s.L.length := by rw [List.findIdx?_eq_some_iff_getElem] at hf; exact hf.1
  have hgd : s.L.getD k en0 = s.L[k] := by simp [List.getD, hkl]
  rw [fidx_some hf] at HP
  have hj0 : (0 : Int) ≤ k := by omega
  have hj1 : (k : Int) < s.L.length := by omega
  have HS : Hid (∀ W, Keeps [] w0 W → TlRep 46 W F p s) := Lib.hid (fun W hW => HR.out.keep hW (by simp))
  obtain ⟨A, cap, g0⟩ := h
  obtain ⟨_, _, hv, -, -, hA⟩ := own_shape g0.o
  obtain ⟨rfl, -, rfl⟩ : A = _ ∧ s.L.length = _ ∧ cap = _ := by injection hv with h1 h2 h3; exact ⟨h1, rfl, h3⟩
  clear hv
  obtain ⟨gb, rfl⟩ := hA (by omega)
  have HG0 := Lib.hid g0
  clear hA g0
  cases hb : (wr && !s.L[k].w) with
  | true =>
    have e1 : s.look a b wr = s := by unfold Tl.look Tl.hit; rw [hf]; simp only [hgd, hb, if_true]
    have e2 : s.lookR a b wr = (0, false) := by unfold Tl.lookR Tl.hit; rw [hf]; simp only [hgd, hb, if_true]
    have HE := Lib.hid (And.intro e1 e2)
    simp only [Bool.and_eq_true, Bool.not_eq_true'] at hb
    obtain ⟨rfl, hw⟩ := hb
    clear hf e1 e2 hgd
    go_enter Try.func31, Try.ntmps31
    go_wp2_with fail
    refine HP.out.mono ?_
    rintro e w1 ⟨rfl, k1⟩
    have c1 : w1.cell? ⟨p, 1, none⟩ = some (.slice (some ⟨gb, 0, none⟩) s.L.length cap) := (HG0.out.b.keep k1 (by simp)).cell 1
    have o1 := own_keep HG0.out.o k1 (by simp)
    have x0 := own_cell o1 (j := k * 4) (u := .int .i64 s.L[k].s) (by rw [show k * 4 = k * 4 + 0 by omega, es_at hkl (by omega)]; rfl)
    have x1 := own_cell o1 (j := k * 4 + 1) (u := .int .i64 s.L[k].p) (by rw [es_at hkl (by omega)]; rfl)
    have x2 := own_cell o1 (j := k * 4 + 2) (u := .int .i64 s.L[k].f) (by rw [es_at hkl (by omega)]; rfl)
    have x3 := own_cell o1 (j := k * 4 + 3) (u := .bool s.L[k].w) (by rw [es_at hkl (by omega)]; rfl)
    rw [hw] at x3
    clear o1
    go_wp2_with fail
    go_ret2
    obtain ⟨e1, e2⟩ := HE.out
    rw [e1, e2]
    have kk : Keeps [] w0 (w1.alloc (.cells #[.int .i64 s.L[k].s, .int .i64 s.L[k].p, .int .i64 s.L[k].f, .bool false] 34)) := k1.alloc _
    exact ⟨rfl, .same (HR.out.keep kk (by simp)) (kk.mono (by simp))⟩
  | false =>
  have e1 : s.look a b wr = ⟨s.n, s.L[k] :: s.L.eraseIdx k⟩ := by unfold Tl.look Tl.hit; rw [hf]; simp only [hgd, hb, Bool.false_eq_true, if_false]
  have e2 : s.lookR a b wr = (s.L[k].f, true) := by unfold Tl.lookR Tl.hit; rw [hf]; simp only [hgd, hb, Bool.false_eq_true, if_false]
  have HE := Lib.hid (And.intro e1 e2)
  have HBB := Lib.hid hb
  clear hf e1 e2 hgd hb
  go_enter Try.func31, Try.ntmps31
  go_wp2_with fail
  refine HP.out.mono ?_
  rintro e w1 ⟨rfl, kw1⟩
  have c1 : w1.cell? ⟨p, 1, none⟩ = some (.slice (some ⟨gb, 0, none⟩) s.L.length cap) := (HG0.out.b.keep kw1 (by simp)).cell 1
  have o1 := own_keep HG0.out.o kw1 (by simp)
  have x0 := own_cell o1 (j := k * 4) (u := .int .i64 s.L[k].s) (by rw [show k * 4 = k * 4 + 0 by omega, es_at hkl (by omega)]; rfl)
  have x1 := own_cell o1 (j := k * 4 + 1) (u := .int .i64 s.L[k].p) (by rw [es_at hkl (by omega)]; rfl)
  have x2 := own_cell o1 (j := k * 4 + 2) (u := .int .i64 s.L[k].f) (by rw [es_at hkl (by omega)]; rfl)
  have x3 := own_cell o1 (j := k * 4 + 3) (u := .bool s.L[k].w) (by rw [es_at hkl (by omega)]; rfl)
  have hb : Blk (w1.alloc (.cells #[.int .i64 s.L[k].s, .int .i64 s.L[k].p, .int .i64 s.L[k].f, .bool s.L[k].w] 34)) w1.heap.size 34 #[.int .i64 s.L[k].s, .int .i64 s.L[k].p, .int .i64 s.L[k].f, .bool s.L[k].w] := Blk.new _ _ _
  have K0 : Keeps [] w0 (w1.alloc (.cells #[.int .i64 s.L[k].s, .int .i64 s.L[k].p, .int .i64 s.L[k].f, .bool s.L[k].w] 34)) := kw1.alloc _
  have hxF : ∀ g ∈ F, g ≠ w1.heap.size := fun g hg e => by have := (HS.out _ kw1).lt g hg; omega
  clear o1
  go_upto_region 5 with fail
  clear c1 x0 x1 x2 x3 kw1 HP hj0 hj1
  generalize w1.alloc (.cells #[.int .i64 s.L[k].s, .int .i64 s.L[k].p, .int .i64 s.L[k].f, .bool s.L[k].w] 34) = w at *
  generalize w1.heap.size = xb at *
  obtain ⟨x, hx⟩ : ∃ x, x = s.L[k] := ⟨_, rfl⟩
  rw [← hx] at HE HBB hb
  clear hx
  have HK0 := Lib.hid K0
  have h := HS.out _ K0
  have HC : Hid (∀ W, Keeps [] w W → Calls Try.prog 38 #[.pointer (some ⟨p, 0, none⟩), .int .i64 k] W fun e w' => ∃ v, e = .returned v ∧ w'.ownsRow 0 34 4 v (s.L.eraseIdx k).length (es (s.L.eraseIdx k)) ∧ Keeps [] W w' ∧ ∀ g ∈ fp v, W.heap.size ≤ g) := Lib.hid (fun W hW => rwithout_any W F p s k hkl hn (h.keep hW (by simp)))
  clear K0 HG0
  obtain ⟨A, cap, g1⟩ := h
  have HG := Lib.hid g1
  have HB := Lib.hid hb
  have HI := Lib.hid info34
  have HXF := Lib.hid hxF
  have x0 := hb.cell 0
  have x1 := hb.cell 1
  have x2 := hb.cell 2
  have x3 := hb.cell 3
  have KA : Hid (Keeps [] w (w.alloc (.cells #[.int .i64 x.s, .int .i64 x.p, .int .i64 x.f, .bool x.w] 34)).drew) := Lib.hid (((Keeps.refl [] w).alloc _).drew)
  have KB : Hid (Keeps [] w w.drew) := Lib.hid ((Keeps.refl [] w).drew)
  have P1 := Lib.hid (es_one (s.L.eraseIdx k))
  have hle : (s.L.eraseIdx k).length + 1 = s.L.length := by rw [List.length_eraseIdx_of_lt hkl]; omega
  have hm := g1.m
  have h63 : 1 + (s.L.eraseIdx k).length ≤ maxLen := by unfold maxLen; omega
  have HL : Hid ((x :: s.L.eraseIdx k).length ≤ s.n) := Lib.hid (by simp only [List.length_cons]; omega)
  have HW : Hid (∀ (v : Value) (W : World), W.ownsRow 0 34 4 v (1 + (s.L.eraseIdx k).length) (ec x ++ es (s.L.eraseIdx k)) → W.ownsRow 0 34 4 v (x :: s.L.eraseIdx k).length (es (x :: s.L.eraseIdx k))) := Lib.hid (fun v W h => by rw [es_cons, List.length_cons, Nat.add_comm]; exact h)
  have HOA : Hid (∀ W, Keeps [] (w.alloc (.cells #[.int .i64 x.s, .int .i64 x.p, .int .i64 x.f, .bool x.w] 34)).drew W → W.ownsRow 0 34 4 (.slice (some ⟨w.heap.size, 0, none⟩) 1 1) 1 (ec x)) := Lib.hid (fun W hW => own_of_blk ((Blk.new w 34 #[.int .i64 x.s, .int .i64 x.p, .int .i64 x.f, .bool x.w]).drew.keep hW (by simp)) (by omega) (by unfold maxLen; omega) rfl rfl)
  have HOB : Hid (∀ W : World, (W.alloc (.cells #[.int .i64 x.s, .int .i64 x.p, .int .i64 x.f, .bool x.w] 34)).ownsRow 0 34 4 (.slice (some ⟨W.heap.size, 0, none⟩) 1 1) 1 (ec x)) := Lib.hid (fun W => own_of_blk (Blk.new W 34 #[.int .i64 x.s, .int .i64 x.p, .int .i64 x.f, .bool x.w]) (by omega) (by unfold maxLen; omega) rfl rfl)
  have HRB : Hid (∀ (W : World) (A1 : Option Addr) (c1 : Nat), W.ownsRow 0 34 4 (.slice A1 (s.L.eraseIdx k).length c1) (s.L.eraseIdx k).length (es (s.L.eraseIdx k)) → Reads (W.alloc (.cells #[.int .i64 x.s, .int .i64 x.p, .int .i64 x.f, .bool x.w] 34)) (W.alloc (.cells #[.int .i64 x.s, .int .i64 x.p, .int .i64 x.f, .bool x.w] 34)).heap.size 4 A1 (s.L.eraseIdx k).length (es (s.L.eraseIdx k))) := Lib.hid (fun W A1 c1 o => reads_own (own_keep o ((Keeps.refl [] W).alloc _) (by simp)))
  have HFB : Hid (∀ W : World, w.heap.size ≤ W.heap.size → ∀ g ∈ fp (.slice (some ⟨W.heap.size, 0, none⟩) 1 1), w.heap.size ≤ g) := Lib.hid (fun W hW g hg => by rw [List.mem_singleton.1 hg]; exact hW)
  have hpl := g1.b.lt
  have hsz1 : (s.L.eraseIdx k).length ≤ 1000 := by omega
  clear g1 hb hle hxF
  cases wr with
  | false =>
    go_wp2_with fail
    go_region_law (first
      | (refine step_app (by rfl) (.tmp 33) (.tmp 36) 32 (by rfl) 34 (.agg #[.int .i64 0, .int .i64 0, .int .i64 0, .bool false]) 4 32 Try.underlying32 HI.out rfl (by omega) (.slice (some ⟨w.heap.size, 0, none⟩) 1 1) 1 (ec x) ?_ oA _ A1 (s.L.eraseIdx k).length c1 (es (s.L.eraseIdx k)) ?_ (reads_own o1) P1.out h63 (by omega) (fun v2 w2 ho2 hk2 hf2 => ?_); (focus (first | (simp [Act.eval]; done) | (simp [Act.eval, Act.put]; done))); (focus (first | (simp [Act.eval]; done) | (simp [Act.eval, Act.put]; done))); have kk := fresh1 (L' := x :: s.L.eraseIdx k) HG.out (HW.out _ _ ho2) (kk1.trans hk2 (fun g hg => .inr ((fun g (hg : g ∈ fp (.slice (some ⟨w.heap.size, 0, none⟩) 1 1)) => Nat.le_of_eq (List.mem_singleton.1 hg).symm) g hg))) (fun g hg => (hf2 g hg).elim ((fun g (hg : g ∈ fp (.slice (some ⟨w.heap.size, 0, none⟩) 1 1)) => Nat.le_of_eq (List.mem_singleton.1 hg).symm) g) (fun h => Nat.le_trans kk1.size h)) HL.out; obtain ⟨A3, cap3, rfl, d1, d0, hsz, hn⟩ := kk; have HN := Lib.hid hn; clear hn)
      | (refine step_app (by rfl) (.tmp 33) (.tmp 36) 32 (by rfl) 34 (.agg #[.int .i64 0, .int .i64 0, .int .i64 0, .bool false]) 4 32 Try.underlying32 HI.out rfl (by omega) (.slice (some ⟨w1.heap.size, 0, none⟩) 1 1) 1 (ec x) ?_ (HOB.out w1) _ A1 (s.L.eraseIdx k).length c1 (es (s.L.eraseIdx k)) ?_ (HRB.out w1 A1 c1 o1) P1.out h63 (by omega) (fun v2 w2 ho2 hk2 hf2 => ?_); (focus (first | (simp [Act.eval]; done) | (simp [Act.eval, Act.put]; done))); (focus (first | (simp [Act.eval]; done) | (simp [Act.eval, Act.put]; done))); have kk := fresh1 (L' := x :: s.L.eraseIdx k) HG.out (HW.out _ _ ho2) ((kk1.alloc (.cells #[.int .i64 x.s, .int .i64 x.p, .int .i64 x.f, .bool x.w] 34)).trans hk2 (fun g hg => .inr ((HFB.out w1 zz) g hg))) (fun g hg => (hf2 g hg).elim ((HFB.out w1 zz) g) (fun h => Nat.le_trans (kk1.alloc (.cells #[.int .i64 x.s, .int .i64 x.p, .int .i64 x.f, .bool x.w] 34)).size h)) HL.out; obtain ⟨A3, cap3, rfl, d1, d0, hsz, hn⟩ := kk; have HN := Lib.hid hn; clear hn)
      | (refine step_call rfl 38 _ _ rfl #[.pointer (some ⟨p, 0, none⟩), .int .i64 k] (by first | (simp [Act.eval]; done) | (simp [Act.eval, Act.put]; done)) (enters_of Try.func38 (by kernel_rfl) rfl) (HC.out _ KA.out) ?_; rintro e w1 ⟨v, rfl, o1, k1, f1⟩; refine ⟨_, rfl, ?_⟩; obtain ⟨A1, c1, rfl, -, -, -⟩ := own_shape o1; have kk1 := KA.out.trans k1 (by simp); have yb := HB.out.keep kk1 (by simp); have y0 := yb.cell 0; have y1 := yb.cell 1; have y2 := yb.cell 2; have y3 := yb.cell 3; have zz := kk1.size; have ff := Lib.hid (fun g (hg : g ∈ fp (.slice A1 (s.L.eraseIdx k).length c1)) => Nat.le_trans KA.out.size (f1 g hg)); clear yb; have oA := HOA.out _ k1)
      | (refine step_call rfl 38 _ _ rfl #[.pointer (some ⟨p, 0, none⟩), .int .i64 k] (by first | (simp [Act.eval]; done) | (simp [Act.eval, Act.put]; done)) (enters_of Try.func38 (by kernel_rfl) rfl) (HC.out _ KB.out) ?_; rintro e w1 ⟨v, rfl, o1, k1, f1⟩; refine ⟨_, rfl, ?_⟩; obtain ⟨A1, c1, rfl, -, -, -⟩ := own_shape o1; have kk1 := KB.out.trans k1 (by simp); have yb := HB.out.keep kk1 (by simp); have y0 := yb.cell 0; have y1 := yb.cell 1; have y2 := yb.cell 2; have y3 := yb.cell 3; have zz := kk1.size; have ff := Lib.hid (fun g (hg : g ∈ fp (.slice A1 (s.L.eraseIdx k).length c1)) => Nat.le_trans KB.out.size (f1 g hg)); clear yb))
    all_goals
      obtain ⟨F3, r3, k3, f3⟩ := HN.out
      have b3 := HB.out.keep k3 (fun h => HXF.out xb h rfl)
      have HN3 := Lib.hid (And.intro r3 (And.intro k3 f3))
      clear HN r3 k3 f3
      generalize hw3 : World.setCell _ _ _ = w3 at *
      clear hw3
      have y2 := b3.cell 2
      go_wp2_with fail
      go_ret2
      obtain ⟨e1, e2⟩ := HE.out
      obtain ⟨r3, k3, f3⟩ := HN3.out
      rw [e1, e2]
      exact ⟨rfl, F3, r3, (HK0.out.mono (by simp)).trans k3 (fun g hg => .inl hg), fun g hg => (f3 g hg).imp_right (Nat.le_trans HK0.out.size)⟩
  | true =>
    have t1 : (!x.w) = false := by simpa using HBB.out
    go_wp2_with fail
    go_region_law (first
      | (refine step_app (by rfl) (.tmp 33) (.tmp 36) 32 (by rfl) 34 (.agg #[.int .i64 0, .int .i64 0, .int .i64 0, .bool false]) 4 32 Try.underlying32 HI.out rfl (by omega) (.slice (some ⟨w.heap.size, 0, none⟩) 1 1) 1 (ec x) ?_ oA _ A1 (s.L.eraseIdx k).length c1 (es (s.L.eraseIdx k)) ?_ (reads_own o1) P1.out h63 (by omega) (fun v2 w2 ho2 hk2 hf2 => ?_); (focus (first | (simp [Act.eval]; done) | (simp [Act.eval, Act.put]; done))); (focus (first | (simp [Act.eval]; done) | (simp [Act.eval, Act.put]; done))); have kk := fresh1 (L' := x :: s.L.eraseIdx k) HG.out (HW.out _ _ ho2) (kk1.trans hk2 (fun g hg => .inr ((fun g (hg : g ∈ fp (.slice (some ⟨w.heap.size, 0, none⟩) 1 1)) => Nat.le_of_eq (List.mem_singleton.1 hg).symm) g hg))) (fun g hg => (hf2 g hg).elim ((fun g (hg : g ∈ fp (.slice (some ⟨w.heap.size, 0, none⟩) 1 1)) => Nat.le_of_eq (List.mem_singleton.1 hg).symm) g) (fun h => Nat.le_trans kk1.size h)) HL.out; obtain ⟨A3, cap3, rfl, d1, d0, hsz, hn⟩ := kk; have HN := Lib.hid hn; clear hn)
      | (refine step_app (by rfl) (.tmp 33) (.tmp 36) 32 (by rfl) 34 (.agg #[.int .i64 0, .int .i64 0, .int .i64 0, .bool false]) 4 32 Try.underlying32 HI.out rfl (by omega) (.slice (some ⟨w1.heap.size, 0, none⟩) 1 1) 1 (ec x) ?_ (HOB.out w1) _ A1 (s.L.eraseIdx k).length c1 (es (s.L.eraseIdx k)) ?_ (HRB.out w1 A1 c1 o1) P1.out h63 (by omega) (fun v2 w2 ho2 hk2 hf2 => ?_); (focus (first | (simp [Act.eval]; done) | (simp [Act.eval, Act.put]; done))); (focus (first | (simp [Act.eval]; done) | (simp [Act.eval, Act.put]; done))); have kk := fresh1 (L' := x :: s.L.eraseIdx k) HG.out (HW.out _ _ ho2) ((kk1.alloc (.cells #[.int .i64 x.s, .int .i64 x.p, .int .i64 x.f, .bool x.w] 34)).trans hk2 (fun g hg => .inr ((HFB.out w1 zz) g hg))) (fun g hg => (hf2 g hg).elim ((HFB.out w1 zz) g) (fun h => Nat.le_trans (kk1.alloc (.cells #[.int .i64 x.s, .int .i64 x.p, .int .i64 x.f, .bool x.w] 34)).size h)) HL.out; obtain ⟨A3, cap3, rfl, d1, d0, hsz, hn⟩ := kk; have HN := Lib.hid hn; clear hn)
      | (refine step_call rfl 38 _ _ rfl #[.pointer (some ⟨p, 0, none⟩), .int .i64 k] (by first | (simp [Act.eval]; done) | (simp [Act.eval, Act.put]; done)) (enters_of Try.func38 (by kernel_rfl) rfl) (HC.out _ KA.out) ?_; rintro e w1 ⟨v, rfl, o1, k1, f1⟩; refine ⟨_, rfl, ?_⟩; obtain ⟨A1, c1, rfl, -, -, -⟩ := own_shape o1; have kk1 := KA.out.trans k1 (by simp); have yb := HB.out.keep kk1 (by simp); have y0 := yb.cell 0; have y1 := yb.cell 1; have y2 := yb.cell 2; have y3 := yb.cell 3; have zz := kk1.size; have ff := Lib.hid (fun g (hg : g ∈ fp (.slice A1 (s.L.eraseIdx k).length c1)) => Nat.le_trans KA.out.size (f1 g hg)); clear yb; have oA := HOA.out _ k1)
      | (refine step_call rfl 38 _ _ rfl #[.pointer (some ⟨p, 0, none⟩), .int .i64 k] (by first | (simp [Act.eval]; done) | (simp [Act.eval, Act.put]; done)) (enters_of Try.func38 (by kernel_rfl) rfl) (HC.out _ KB.out) ?_; rintro e w1 ⟨v, rfl, o1, k1, f1⟩; refine ⟨_, rfl, ?_⟩; obtain ⟨A1, c1, rfl, -, -, -⟩ := own_shape o1; have kk1 := KB.out.trans k1 (by simp); have yb := HB.out.keep kk1 (by simp); have y0 := yb.cell 0; have y1 := yb.cell 1; have y2 := yb.cell 2; have y3 := yb.cell 3; have zz := kk1.size; have ff := Lib.hid (fun g (hg : g ∈ fp (.slice A1 (s.L.eraseIdx k).length c1)) => Nat.le_trans KB.out.size (f1 g hg)); clear yb))
    all_goals
      obtain ⟨F3, r3, k3, f3⟩ := HN.out
      have b3 := HB.out.keep k3 (fun h => HXF.out xb h rfl)
      have HN3 := Lib.hid (And.intro r3 (And.intro k3 f3))
      clear HN r3 k3 f3
      generalize hw3 : World.setCell _ _ _ = w3 at *
      clear hw3
      have y2 := b3.cell 2
      go_wp2_with fail
      go_ret2
      obtain ⟨e1, e2⟩ := HE.out
      obtain ⟨r3, k3, f3⟩ := HN3.out
      rw [e1, e2]
      exact ⟨rfl, F3, r3, (HK0.out.mono (by simp)).trans k3 (fun g hg => .inl hg), fun g hg => (f3 g hg).imp_right (Nat.le_trans HK0.out.size)⟩
end Go.Proofs.Ytkfcoemdpcjhfaa
