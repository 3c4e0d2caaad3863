/- The reference: begins. -/
import Derived.Test.YtcoecpglnabbpaaW9
namespace Go.Proofs.Ytcoecpglnabbpaa
open Go.RowKit

theorem bys_size_ (s : ByteArray) : (bys s).length = s.size := by simp
/-- Three equal bytes begin at a place. -/
def beg (s : ByteArray) (i : Nat) : Bool := decide (3 ≤ eqN ((bys s).drop i))
theorem beg_true {s : ByteArray} {i : Nat} (h : i + 2 < s.size) (e1 : s[i] = s[i + 1]) (e2 : s[i] = s[i + 2]) : beg s i = true := by
  unfold beg
  rw [drop_at s i (by omega), drop_at s (i + 1) (by omega), drop_at s (i + 2) (by omega)]
  rw [eqN_cons, List.takeWhile_cons, if_pos (by simp [e1]), List.takeWhile_cons, if_pos (by simp [e2])]
  simp
  omega
theorem beg_end {s : ByteArray} {i : Nat} (h : s.size ≤ i + 2) : beg s i = false := by
  unfold beg
  have := eqN_le ((bys s).drop i)
  simp only [List.length_drop, bys_size_] at this
  simp only [decide_eq_false_iff_not]
  omega
theorem beg_ne1 {s : ByteArray} {i : Nat} (h : i + 2 < s.size) (e1 : s[i] ≠ s[i + 1]) : beg s i = false := by
  unfold beg
  rw [drop_at s i (by omega), drop_at s (i + 1) (by omega)]
  rw [eqN_cons, List.takeWhile_cons, if_neg (by simpa using fun h => e1 h.symm)]
  simp
theorem beg_ne2 {s : ByteArray} {i : Nat} (h : i + 2 < s.size) (e1 : s[i] = s[i + 1]) (e2 : s[i] ≠ s[i + 2]) : beg s i = false := by
  unfold beg
  rw [drop_at s i (by omega), drop_at s (i + 1) (by omega), drop_at s (i + 2) (by omega)]
  rw [eqN_cons, List.takeWhile_cons, if_pos (by simp [e1]), List.takeWhile_cons, if_neg (by simpa using fun h => e2 h.symm)]
  simp

set_option maxHeartbeats 1600000 in
set_option maxRecDepth 100000 in
theorem begins_any (s : ByteArray) (i : Nat) (w : World) (hs : s.size ≤ 1000) (hi : i < s.size) :
    Calls Try.prog 23 #[.string s, .int .i64 i] w fun e w' => e = .returned (.bool (beg s i)) ∧ ∃ n, w' = w.drewN n := by
  have j2 : IntKind.i64.wrap ((i : Int) + 2) = (i : Int) + 2 := by rw [IntKind.wrap_i64]; omega
  have j1 : IntKind.i64.wrap ((i : Int) + 1) = (i : Int) + 1 := by rw [IntKind.wrap_i64]; omega
  have j0 : (0 : Int) ≤ i := by omega
  have j3 : (0 : Int) ≤ (i : Int) + 1 := by omega
  have j4 : (0 : Int) ≤ (i : Int) + 2 := by omega
  have n1 : ((i : Int) + 1).toNat = i + 1 := by omega
  have n2 : ((i : Int) + 2).toNat = i + 2 := by omega
  by_cases h : i + 2 < s.size
  rotate_left
  · have hd : decide ((i : Int) + 2 < s.size) = false := by simp; omega
    have HB := Lib.hid (beg_end (s := s) (i := i) (by omega))
    go_enter Try.func23, Try.ntmps23
    go_wp2_with fail
    go_quiet (fail)
    go_wp2
    go_ret
    rw [HB.out]
    exact ⟨rfl, _, rfl⟩
  have hd : decide ((i : Int) + 2 < s.size) = true := by simp; omega
  have b0 : (i : Int) < s.size := by omega
  have b1 : (i : Int) + 1 < s.size := by omega
  have b2 : (i : Int) + 2 < s.size := by omega
  have key : ∀ x y : UInt8, x ≠ y → ((x.toNat : Int) == (y.toNat : Int)) = false := by
    intro x y hxy
    simp only [beq_eq_false_iff_ne, ne_eq]
    intro h
    exact hxy (UInt8.toNat_inj.1 (by omega))
  by_cases e1 : s[i] = s[i + 1]
  · have t1 : ((s[i].toNat : Int) == (s[i + 1].toNat : Int)) = true := by simp [e1]
    by_cases e2 : s[i] = s[i + 2]
    · have t2 : ((s[i].toNat : Int) == (s[i + 2].toNat : Int)) = true := by simp [← e2]
      have HB := Lib.hid (beg_true h e1 e2)
      clear e1 e2 key
      go_enter Try.func23, Try.ntmps23
      go_wp2_with fail
      go_quiet (fail)
      go_wp2
      go_ret
      rw [HB.out]
      exact ⟨rfl, _, rfl⟩
    · have t2 := key _ _ e2
      have HB := Lib.hid (beg_ne2 h e1 e2)
      clear e1 e2 key
      go_enter Try.func23, Try.ntmps23
      go_wp2_with fail
      go_quiet (fail)
      go_wp2
      go_ret
      rw [HB.out]
      exact ⟨rfl, _, rfl⟩
  · have t1 := key _ _ e1
    have HB := Lib.hid (beg_ne1 h e1)
    clear e1 key
    go_enter Try.func23, Try.ntmps23
    go_wp2_with fail
    go_quiet (fail)
    go_wp2
    go_ret
    rw [HB.out]
    exact ⟨rfl, _, rfl⟩
end Go.Proofs.Ytcoecpglnabbpaa
