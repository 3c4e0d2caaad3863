/- The walk of CompressTells. -/
import Derived.Test.YtcoecpglnabbpaaE7
namespace Go.Proofs.Ytcoecpglnabbpaa
open Go.RowKit

theorem rpack_st (w : World) (s : ByteArray) : Calls Try.prog 9 #[.string s] w fun e w' => e = .returned (.tuple #[.string (st (packR (bys s)).1), .bool (packR (bys s)).2]) ∧ Keeps [] w w' := rpack_any w s
theorem runpack_st (w : World) (s : ByteArray) (hs : s.size ≤ 100) : Calls Try.prog 11 #[.string s] w fun e w' => e = .returned (.tuple #[.string (st (unpackR (bys s)).1), .bool (unpackR (bys s)).2]) ∧ Keeps [] w w' := runpack_any w s hs

set_option maxHeartbeats 1600000 in
set_option maxRecDepth 100000 in
theorem tells_any (w : World) (x s : ByteArray) (hx0 : x.size ≤ 9223372036854775807) (hs0 : s.size ≤ 9223372036854775807) : Calls Try.prog 3 #[.string x, .string s] w fun e w' => e = .returned (.bool true) ∧ Keeps [] w w' := by
  by_cases hx : 100 < x.size
  · have td : decide ((100 : Int) < x.size) = true := by simp; omega
    clear hx
    go_enter Try.func3, Try.ntmps3
    go_wp2_with fail
    refine (small_any w).mono ?_
    rintro e w1 ⟨rfl, k1⟩
    go_wp2_with fail
    go_ret
    exact ⟨rfl, k1⟩
  have td : decide ((100 : Int) < x.size) = false := by simp; omega
  by_cases hs : 100 < s.size
  · have td2 : decide ((100 : Int) < s.size) = true := by simp; omega
    clear hx hs
    go_enter Try.func3, Try.ntmps3
    go_wp2_with fail
    refine (small_any w).mono ?_
    rintro e w1 ⟨rfl, k1⟩
    go_wp2_with fail
    go_ret
    exact ⟨rfl, k1⟩
  have td2 : decide ((100 : Int) < s.size) = false := by simp; omega
  have HS : Hid (s.size ≤ 100) := Lib.hid (by omega)
  clear hx hs
  go_enter Try.func3, Try.ntmps3
  go_wp2_with fail
  refine (small_any w).mono ?_
  rintro e w1 ⟨rfl, k1⟩
  go_wp2_with fail
  refine (pack_st w1 x).mono ?_
  rintro e w2 ⟨rfl, k2⟩
  have K2 := k1.trans k2 (by simp)
  clear k1 k2
  go_wp2_with fail
  refine (rpack_st w2 x).mono ?_
  rintro e w3 ⟨rfl, k3⟩
  have K3 := K2.trans k3 (by simp)
  clear K2 k3
  go_wp2_with fail
  refine (unpack_st w3 s).mono ?_
  rintro e w4 ⟨rfl, k4⟩
  have K4 := K3.trans k4 (by simp)
  clear K3 k4
  go_wp2_with fail
  refine (runpack_st w4 s HS.out).mono ?_
  rintro e w5 ⟨rfl, k5⟩
  have K5 := K4.trans k5 (by simp)
  clear K4 k5
  generalize packR (bys x) = P at *
  generalize unpackR (bys s) = U at *
  obtain ⟨P1, P2⟩ := P
  obtain ⟨U1, U2⟩ := U
  have e1 : ((st P1).toList == (st P1).toList) = true := by simp
  have e2 : ((st U1).toList == (st U1).toList) = true := by simp
  have e3 : (P2 == P2) = true := by simp
  have e4 : (U2 == U2) = true := by simp
  go_wp2_with fail
  go_ret
  exact ⟨rfl, K5⟩
end Go.Proofs.Ytcoecpglnabbpaa
