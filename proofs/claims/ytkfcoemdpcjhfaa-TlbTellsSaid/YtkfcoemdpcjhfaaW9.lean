/- Same; do. -/
import Derived.Test.YtkfcoemdpcjhfaaW8
import Derived.Laws.StructEq
namespace Go.Proofs.Ytkfcoemdpcjhfaa
open Go.RowKit

theorem same_any (w : World) (v u : Value) (L : List En) (h1 : w.ownsRow 0 34 4 v L.length (es L)) (h2 : w.ownsRow 0 34 4 u L.length (es L)) :
    Calls Try.prog 18 #[v, u] w fun e w' => e = .returned (.bool true) ∧ Keeps [] w w' := by
  have hm := own_max h1
  unfold maxLen at hm
  obtain ⟨A, c, rfl, _, _, hA⟩ := own_shape h1
  obtain ⟨B, c2, rfl, _, _, hB⟩ := own_shape h2
  go_enter Try.func18, Try.ntmps18
  go_wp2
  go_loopw [5] (fun i wr => ∃ k : Nat, k ≤ L.length ∧ i = .int .i64 k ∧ Keeps [] w wr) (fun i _ => L.length - (intOf i).toNat)
  case atStart => exact ⟨0, by omega, rfl, Keeps.refl _ _⟩
  case round =>
    obtain ⟨k, hk, rfl, hkp⟩ := hrel
    by_cases hlt : k < L.length
    · obtain ⟨g, rfl⟩ := hA (by omega)
      obtain ⟨g2, rfl⟩ := hB (by omega)
      have o1 := own_keep h1 hkp (by simp)
      have o2 := own_keep h2 hkp (by simp)
      have a0 := own_cell o1 (j := k * 4) (u := .int .i64 L[k].s) (by rw [show k * 4 = k * 4 + 0 by omega, es_at hlt (by omega)]; rfl)
      have a1 := own_cell o1 (j := k * 4 + 1) (u := .int .i64 L[k].p) (by rw [es_at hlt (by omega)]; rfl)
      have a2 := own_cell o1 (j := k * 4 + 2) (u := .int .i64 L[k].f) (by rw [es_at hlt (by omega)]; rfl)
      have a3 := own_cell o1 (j := k * 4 + 3) (u := .bool L[k].w) (by rw [es_at hlt (by omega)]; rfl)
      have b0 := own_cell o2 (j := k * 4) (u := .int .i64 L[k].s) (by rw [show k * 4 = k * 4 + 0 by omega, es_at hlt (by omega)]; rfl)
      have b1 := own_cell o2 (j := k * 4 + 1) (u := .int .i64 L[k].p) (by rw [es_at hlt (by omega)]; rfl)
      have b2 := own_cell o2 (j := k * 4 + 2) (u := .int .i64 L[k].f) (by rw [es_at hlt (by omega)]; rfl)
      have b3 := own_cell o2 (j := k * 4 + 3) (u := .bool L[k].w) (by rw [es_at hlt (by omega)]; rfl)
      have hi0 : (0 : Int) ≤ (k : Int) := by omega
      have hi1 : (k : Int) < (L.length : Int) := by omega
      generalize L[k] = x at *
      clear hA hB h1 h2 o1 o2
      go_wp2_with fail
      go_quiet (fail)
      go_wp2
      go_roundw
      case rel => exact ⟨k + 1, by omega, by go_num, hkp.drewN _⟩
      case measure => simp [intOf]; omega
    · go_wp2
      go_ret
      exact ⟨rfl, hkp⟩

/-- The operation (d, e). -/
def Tl.op (t : Tl) (d : Int) (e : En) : Tl :=
  if d % 8 = 3 ∨ d % 8 = 4 then t.fill e else if d % 8 = 5 then t.drop (fun x => x.is e.s e.p) else if d % 8 = 6 then t.drop (fun x => x.f == e.f) else if d % 8 = 7 then t.drop (fun x => x.s == e.s) else t.look e.s e.p e.w
def Tl.opR (t : Tl) (d : Int) (e : En) : Int × Bool :=
  if d % 8 = 3 ∨ d % 8 = 4 then (0, false) else if d % 8 = 5 then ((t.L.length : Int) - (t.drop (fun x => x.is e.s e.p)).L.length, false) else if d % 8 = 6 then ((t.L.length : Int) - (t.drop (fun x => x.f == e.f)).L.length, false)
  else if d % 8 = 7 then ((t.L.length : Int) - (t.drop (fun x => x.s == e.s)).L.length, false) else t.lookR e.s e.p e.w

set_option maxRecDepth 100000 in
set_option maxHeartbeats 3200000 in
theorem do_any (w : World) (F : List Nat) (p : Nat) (s : Tl) (d : Int) (e : En) (hn : s.n ≤ 1000) (h : TlRep 49 w F p s) :
    Calls Try.prog 9 #[.pointer (some ⟨p, 0, none⟩), .agg #[.int .i64 d, .int .i64 e.s, .int .i64 e.p, .int .i64 e.f, .bool e.w]] w fun z w' => z = .returned (.tuple #[.int .i64 (s.opR d e).1, .bool (s.opR d e).2]) ∧ Next 49 w w' F p (s.op d e) := by
  have kA : Keeps [] w (w.alloc (.cells #[.int .i64 d, .int .i64 e.s, .int .i64 e.p, .int .i64 e.f, .bool e.w] 29)) := (Keeps.refl _ _).alloc _
  have rA := h.keep kA (by simp)
  have h7 := and_7 d
  have q0 := Int.emod_nonneg d (by omega : (8 : Int) ≠ 0)
  have q1 := Int.emod_lt_of_pos d (by omega : (0 : Int) < 8)
  have hop : s.op d e = if d % 8 = 3 ∨ d % 8 = 4 then s.fill e else if d % 8 = 5 then s.drop (fun x => x.is e.s e.p) else if d % 8 = 6 then s.drop (fun x => x.f == e.f) else if d % 8 = 7 then s.drop (fun x => x.s == e.s) else s.look e.s e.p e.w := rfl
  have hor : s.opR d e = if d % 8 = 3 ∨ d % 8 = 4 then (0, false) else if d % 8 = 5 then ((s.L.length : Int) - (s.drop (fun x => x.is e.s e.p)).L.length, false) else if d % 8 = 6 then ((s.L.length : Int) - (s.drop (fun x => x.f == e.f)).L.length, false)
      else if d % 8 = 7 then ((s.L.length : Int) - (s.drop (fun x => x.s == e.s)).L.length, false) else s.lookR e.s e.p e.w := rfl
  have fin : ∀ (W W' : World) (t : Tl), Keeps [] w W → Next 49 W W' F p t → Next 49 w W' F p t := fun _ _ _ k1 ⟨F', r, k, f⟩ => ⟨F', r, (k1.mono (by simp)).trans k (fun g hg => .inl hg), fun g hg => (f g hg).imp_right (Nat.le_trans k1.size)⟩
  have FIN := Lib.hid fin
  generalize d % 8 = q at *
  have hq : q = 0 ∨ q = 1 ∨ q = 2 ∨ q = 3 ∨ q = 4 ∨ q = 5 ∨ q = 6 ∨ q = 7 := by omega
  clear fin
  rcases hq with rfl | rfl | rfl | rfl | rfl | rfl | rfl | rfl
  case' inl => have hc := look_any _ F p s e.s e.p e.w hn rA
  case' inr.inl => have hc := look_any _ F p s e.s e.p e.w hn rA
  case' inr.inr.inl => have hc := look_any _ F p s e.s e.p e.w hn rA
  case' inr.inr.inr.inl => have hc := fill_any _ F p s e hn rA
  case' inr.inr.inr.inr.inl => have hc := fill_any _ F p s e hn rA
  case' inr.inr.inr.inr.inr.inl => have hc := drop_any _ F p s e.s e.p hn rA
  case' inr.inr.inr.inr.inr.inr.inl => have hc := dropFrame_any _ F p s e.f hn rA
  case' inr.inr.inr.inr.inr.inr.inr => have hc := flush_any _ F p s e.s hn rA
  all_goals
    simp only [Int.reduceEq, or_self, or_true, true_or, if_true, if_false] at hop hor
    have HC := Lib.hid hc
    have HO := Lib.hid (And.intro hop hor)
    clear hc hop hor q0 q1
    go_enter Try.func9, Try.ntmps9
    go_wp2_with fail
    refine HC.out.mono ?_
  all_goals
    first
      | (rintro z w1 ⟨rfl, r1, k1⟩
         have N1 := FIN.out _ _ _ kA (Next.same r1 k1)
         go_wp2
         go_ret2
         rw [HO.out.1, HO.out.2]
         exact ⟨rfl, N1⟩)
      | (rintro z w1 ⟨rfl, n1⟩
         have N1 := FIN.out _ _ _ kA n1
         go_wp2
         go_ret2
         rw [HO.out.1, HO.out.2]
         exact ⟨rfl, N1⟩)
end Go.Proofs.Ytkfcoemdpcjhfaa
