/- Same; SwapFails: the walks. -/
import Derived.Test.YtfhnlkbmkfjpnaaP2
namespace Go.Proofs.Ytfhnlkbmkfjpnaa
open Go.RowKit

theorem same_any (w : World) (v u : Value) (n : Nat) (xs : List Int) (h1 : w.ownsRow 0 3 1 v n (xs.map (.int .i64))) (h2 : w.ownsRow 0 3 1 u n (xs.map (.int .i64))) :
    Calls Try.prog 16 #[v, u] w fun e w' => e = .returned (.bool true) ∧ Keeps [] w w' := by
  have hm := own_max h1
  unfold maxLen at hm
  have hl : xs.length = n := by have := own_len h1; simpa using this
  have HL := Lib.hid hl; clear hl
  obtain ⟨A, c, rfl, _, _, hA⟩ := own_shape h1
  obtain ⟨B, c2, rfl, _, _, hB⟩ := own_shape h2
  go_enter Try.func16, Try.ntmps16
  go_wp2
  go_loopw [5] (fun i wr => ∃ k : Nat, k ≤ n ∧ i = .int .i64 k ∧ Keeps [] w wr) (fun i _ => n - (intOf i).toNat)
  case atStart => exact ⟨0, by omega, rfl, Keeps.refl _ _⟩
  case round =>
    obtain ⟨k, hk, rfl, hkp⟩ := hrel
    by_cases hlt : k < n
    · obtain ⟨g, rfl⟩ := hA (by omega)
      obtain ⟨g2, rfl⟩ := hB (by omega)
      have hkx : k < xs.length := by rw [HL.out]; exact hlt
      have c1 : wr.cell? ⟨g, k, none⟩ = some (.int .i64 xs[k]) := own_cell (own_keep h1 hkp (by simp)) (by simp [hkx])
      have c2 : wr.cell? ⟨g2, k, none⟩ = some (.int .i64 xs[k]) := own_cell (own_keep h2 hkp (by simp)) (by simp [hkx])
      have hi0 : (0 : Int) ≤ (k : Int) := by omega
      have hi1 : (k : Int) < (n : Int) := by omega
      generalize xs[k] = x at *
      clear hA hB h1 h2
      go_wp2_with fail
      go_quiet (fail)
      go_wp2
      go_roundw
      case rel => exact ⟨k + 1, by omega, by go_num, hkp.drewN _⟩
      case measure => simp [intOf]; omega
    · go_wp2
      go_ret
      exact ⟨rfl, hkp⟩
end Go.Proofs.Ytfhnlkbmkfjpnaa
