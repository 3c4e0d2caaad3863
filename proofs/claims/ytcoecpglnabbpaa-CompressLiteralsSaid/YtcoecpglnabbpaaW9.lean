/- small. -/
import Derived.Test.YtcoecpglnabbpaaW8
import Derived.Test.YtcoecpglnabbpaaP2
namespace Go.Proofs.Ytcoecpglnabbpaa
open Go.RowKit

theorem str_app (a b : ByteArray) : bys (a ++ b) = bys a ++ bys b := by simp
theorem unpack_zeros : unpackR [192, 0] = (zeros, true) := by
  unfold unpackR
  rw [unpackP_some.2 pack_zeros]

theorem pairs_len (n : Nat) : (pairs n).length = 4 * n := by
  induction n with
  | zero => rfl
  | succ n ih => simp only [pairs, List.length_append, ih]; simp; omega
def zS : ByteArray := ⟨zeros.toArray⟩
def cS : ByteArray := ⟨(List.replicate 62 (99 : UInt8)).toArray⟩
theorem many_zS (w : World) : Calls Try.prog 12 #[.int .u8 0, .int .i64 64] w fun e w' => e = .returned (.string zS) ∧ Keeps [] w w' := many_any w 0 64 (by omega)
theorem many_cS (w : World) : Calls Try.prog 12 #[.int .u8 99, .int .i64 62] w fun e w' => e = .returned (.string cS) ∧ Keeps [] w w' := many_any w 99 62 (by omega)
theorem pack_lit (w : World) (s : ByteArray) (l : Bs) (b : Bool) (h : packR (bys s) = (l, b)) : Calls Try.prog 8 #[.string s] w fun e w' => e = .returned (.tuple #[.string ⟨l.toArray⟩, .bool b]) ∧ Keeps [] w w' :=
  (pack_any w s).mono fun _ _ ⟨h1, h2⟩ => ⟨by rw [h1, h], Keeps.of_below h2 _⟩
theorem unpack_lit (w : World) (s : ByteArray) (l : Bs) (b : Bool) (h : unpackR (bys s) = (l, b)) : Calls Try.prog 10 #[.string s] w fun e w' => e = .returned (.tuple #[.string ⟨l.toArray⟩, .bool b]) ∧ Keeps [] w w' :=
  (unpack_any w s).mono fun _ _ ⟨h1, h2⟩ => ⟨by rw [h1, h], Keeps.of_below h2 _⟩
theorem unpack_zS (w : World) : Calls Try.prog 10 #[.string ⟨#[192, 0]⟩] w fun e w' => e = .returned (.tuple #[.string zS, .bool true]) ∧ Keeps [] w w' := unpack_lit w _ _ _ unpack_zeros

set_option maxRecDepth 100000 in
set_option maxHeartbeats 3200000 in
theorem small_any (w : World) : Calls Try.prog 7 #[] w fun e w' => e = .returned (.bool true) ∧ Keeps [] w w' := by
  have z0 := packR_some pack_zeros
  have z1 := packR_some pack_abc
  have z2 := packR_none pack_pairs
  have z3 := unpack_zeros
  have Z := Lib.hid (And.intro z0 (And.intro z1 (And.intro z2 z3)))
  clear z0 z1 z2 z3
  go_enter Try.func7, Try.ntmps7
  go_wp2_with fail
  refine (many_zS _).mono ?_
  rintro e w1 ⟨rfl, k1⟩
  go_wp2_with fail
  refine (pack_lit w1 zS [192, 0] true Z.out.1).mono ?_
  rintro e w2 ⟨rfl, k2⟩
  have K2 := k1.trans k2 (by simp)
  clear k1 k2
  go_wp2_with fail
  refine (many_cS _).mono ?_
  rintro e w3 ⟨rfl, k3⟩
  have K3 := K2.trans k3 (by simp)
  clear K2 k3
  go_wp2_with fail
  refine (pack_lit w3 _ [2, 97, 98, 190, 99] true (by rw [str_app]; exact Z.out.2.1)).mono ?_
  rintro e w4 ⟨rfl, k4⟩
  have K4 := K3.trans k4 (by simp)
  clear K3 k4
  go_wp2_with fail
  go_loopw [5, 6] (fun s i wr => ∃ (k : Nat) (t : ByteArray), k ≤ 16 ∧ i = .int .i64 k ∧ s = .string t ∧ bys t = pairs k ∧ Keeps [] w wr) (fun _ i _ => 16 - (intOf i).toNat)
  case atStart => exact ⟨0, ⟨#[]⟩, by omega, rfl, rfl, rfl, K4⟩
  case round =>
    clear K4
    obtain ⟨k, t, hk, rfl, rfl, ht, kp⟩ := hrel
    have hts : t.size ≤ 64 := by
      have h1 : (bys t).length = t.size := by simp
      rw [← h1, ht, pairs_len]
      omega
    have HT := Lib.hid ht
    clear ht
    by_cases hlt : k < 16
    · go_wp2_with fail
      go_roundw
      case rel => exact ⟨k + 1, _, by omega, by go_num, rfl, by rw [str_app, HT.out]; rfl, kp⟩
      case measure => simp [intOf]; omega
    · obtain rfl : k = 16 := by omega
      go_wp2_with fail
      refine (pack_lit wr _ [] false (by rw [HT.out]; exact Z.out.2.2.1)).mono ?_
      rintro e w5 ⟨rfl, k5⟩
      have K5 := kp.trans k5 (by simp)
      clear kp k5
      go_wp2_with fail
      refine (unpack_zS w5).mono ?_
      rintro e w6 ⟨rfl, k6⟩
      have K6 := K5.trans k6 (by simp)
      clear K5 k6
      go_wp2_with fail
      refine (many_zS _).mono ?_
      rintro e w7 ⟨rfl, k7⟩
      have K7 := K6.trans k7 (by simp)
      clear K6 k7
      go_wp2_with fail
      go_ret
      exact ⟨rfl, K7⟩
end Go.Proofs.Ytcoecpglnabbpaa
