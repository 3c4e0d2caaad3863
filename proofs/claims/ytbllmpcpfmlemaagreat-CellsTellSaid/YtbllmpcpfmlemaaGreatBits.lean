/- Masks of integers. Own work. -/
import Derived.Test.YtbllmpcpfmlemaaGreatOwn
import Derived.Laws.Bits128
namespace Go.Proofs.YtbllmpcpfmlemaaGreat
open Go.RowKit
/-- 'a & (2^k - 1)'. -/
theorem and_mask (n : Int) (k : Nat) (hk : k < 63) : bits .and .i64 n ((2 ^ k - 1 : Nat) : Int) = n % (2 ^ k : Nat) := by
  show IntKind.i64.wrap ((BitVec.ofInt 64 n &&& BitVec.ofInt 64 ((2 ^ k - 1 : Nat) : Int)).toNat : Int) = _
  have hp : 0 < 2 ^ k := Nat.pos_of_ne_zero (by simp)
  have hp2 : 2 ^ k < 2 ^ 63 := Nat.pow_lt_pow_right (by omega) hk
  have e : (BitVec.ofInt 64 ((2 ^ k - 1 : Nat) : Int)).toNat = 2 ^ k - 1 := by
    rw [BitVec.ofInt_natCast, BitVec.toNat_ofNat, Nat.mod_eq_of_lt]
    omega
  have e2 : (BitVec.ofInt 64 n).toNat = (n % 18446744073709551616).toNat := by
    rw [BitVec.toNat_ofInt]
    rfl
  rw [BitVec.toNat_and, e, e2, Nat.and_two_pow_sub_one_eq_mod, IntKind.wrap_i64]
  have h1 : ((n % 18446744073709551616).toNat : Int) = n % 18446744073709551616 := Int.toNat_of_nonneg (Int.emod_nonneg _ (by omega))
  have h2 : (((n % 18446744073709551616).toNat % 2 ^ k : Nat) : Int) = n % (2 ^ k : Nat) := by
    rw [Int.natCast_emod, h1]
    refine Int.emod_emod_of_dvd _ ?_
    have : (2:Nat) ^ k ∣ 2 ^ 64 := Nat.pow_dvd_pow 2 (by omega)
    exact Int.natCast_dvd_natCast.2 this
  rw [h2]
  have h3 := Int.emod_nonneg n (b := ((2 ^ k : Nat) : Int)) (by omega)
  have h4 := Int.emod_lt_of_pos n (b := ((2 ^ k : Nat) : Int)) (by omega)
  omega
theorem and_255 (n : Int) : bits .and .i64 n 255 = n % 256 := and_mask n 8 (by omega)
theorem and_1 (n : Int) : bits .and .i64 n 1 = n % 2 := and_mask n 1 (by omega)
theorem and_1023 (n : Int) : bits .and .i64 n 1023 = n % 1024 := and_mask n 10 (by omega)
theorem and_7 (n : Int) : bits .and .i64 n 7 = n % 8 := and_mask n 3 (by omega)
theorem or_1 (n : Int) : (bits .or .i64 n 1) % 2 = 1 ∧ -9223372036854775808 ≤ bits .or .i64 n 1 ∧ bits .or .i64 n 1 ≤ 9223372036854775807 := by
  have e : bits .or .i64 n 1 = IntKind.i64.wrap ((BitVec.ofInt 64 n ||| BitVec.ofInt 64 1).toNat : Int) := rfl
  have h : (BitVec.ofInt 64 n ||| BitVec.ofInt 64 1).toNat % 2 = 1 := by
    rw [BitVec.toNat_or, show (BitVec.ofInt 64 1).toNat = 1 from rfl]
    simp
  have h2 := (BitVec.ofInt 64 n ||| BitVec.ofInt 64 1).isLt
  rw [e, IntKind.wrap_i64]
  omega
end Go.Proofs.YtbllmpcpfmlemaaGreat
