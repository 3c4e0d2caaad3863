/- The reference's operations. -/
import Derived.Test.YtkfcoemdpcjhfaaE4
namespace Go.Proofs.Ytkfcoemdpcjhfaa
open Go.RowKit

set_option maxRecDepth 100000 in
set_option maxHeartbeats 3200000 in
theorem rmodel_any (w : World) (F : List Nat) (p : Nat) (s : Tl) (d : Int) (e : En) (hn : s.n ≤ 1000) (hd : Nd s.L) (h : TlRep 46 w F p s) :
    Calls Try.prog 17 #[.pointer (some ⟨p, 0, none⟩), .agg #[.int .i64 d, .int .i64 e.s, .int .i64 e.p, .int .i64 e.f, .bool e.w]] w fun z w' => z = .returned (.tuple #[.int .i64 (s.opR d e).1, .bool (s.opR d e).2]) ∧ Next 46 w w' F p (s.op d e) := by
  have kA : Keeps [] w (w.alloc (.cells #[.int .i64 d, .int .i64 e.s, .int .i64 e.p, .int .i64 e.f, .bool e.w] 29)) := (Keeps.refl _ _).alloc _
  have rA := h.keep kA (by simp)
  have h7 := and_7 d
  have q0 := Int.emod_nonneg d (by omega : (8 : Int) ≠ 0)
  have q1 := Int.emod_lt_of_pos d (by omega : (0 : Int) < 8)
  have hop : s.op d e = if d % 8 = 3 ∨ d % 8 = 4 then s.fill e else if d % 8 = 5 then s.drop (fun x => x.is e.s e.p) else if d % 8 = 6 then s.drop (fun x => x.f == e.f) else if d % 8 = 7 then s.drop (fun x => x.s == e.s) else s.look e.s e.p e.w := rfl
  have hor : s.opR d e = if d % 8 = 3 ∨ d % 8 = 4 then (0, false) else if d % 8 = 5 then ((s.L.length : Int) - (s.drop (fun x => x.is e.s e.p)).L.length, false) else if d % 8 = 6 then ((s.L.length : Int) - (s.drop (fun x => x.f == e.f)).L.length, false)
      else if d % 8 = 7 then ((s.L.length : Int) - (s.drop (fun x => x.s == e.s)).L.length, false) else s.lookR e.s e.p e.w := rfl
  have fin : ∀ (W W' : World) (t : Tl), Keeps [] w W → Next 46 W W' F p t → Next 46 w W' F p t := fun _ _ _ k1 ⟨F', r, k, f⟩ => ⟨F', r, (k1.mono (by simp)).trans k (fun g hg => .inl hg), fun g hg => (f g hg).imp_right (Nat.le_trans k1.size)⟩
  have FIN := Lib.hid fin
  generalize d % 8 = q at *
  have hq : q = 0 ∨ q = 1 ∨ q = 2 ∨ q = 3 ∨ q = 4 ∨ q = 5 ∨ q = 6 ∨ q = 7 := by omega
  clear fin
  rcases hq with rfl | rfl | rfl | rfl | rfl | rfl | rfl | rfl
  case' inl => have hc := rlook_any _ F p s e.s e.p e.w hn rA
  case' inr.inl => have hc := rlook_any _ F p s e.s e.p e.w hn rA
  case' inr.inr.inl => have hc := rlook_any _ F p s e.s e.p e.w hn rA
  case' inr.inr.inr.inl => have hc := rfill_any _ F p s e hn hd rA
  case' inr.inr.inr.inr.inl => have hc := rfill_any _ F p s e hn hd rA
  case' inr.inr.inr.inr.inr.inl => have hc := rdrop_any _ F p s e.s e.p hn hd rA
  case' inr.inr.inr.inr.inr.inr.inl => have hc := rdropFrame_any _ F p s e.f hn rA
  case' inr.inr.inr.inr.inr.inr.inr => have hc := rflush_any _ F p s e.s hn rA
  all_goals
    simp only [Int.reduceEq, or_self, or_true, true_or, if_true, if_false] at hop hor
    have HC := Lib.hid hc
    have HO := Lib.hid (And.intro hop hor)
    clear hc hop hor q0 q1
    go_enter Try.func17, Try.ntmps17
    go_wp2_with fail
    refine HC.out.mono ?_
  all_goals
    rintro z w1 ⟨rfl, n1⟩
    have N1 := FIN.out _ _ _ kA n1
    go_wp2
    go_ret2
    rw [HO.out.1, HO.out.2]
    exact ⟨rfl, N1⟩
end Go.Proofs.Ytkfcoemdpcjhfaa
