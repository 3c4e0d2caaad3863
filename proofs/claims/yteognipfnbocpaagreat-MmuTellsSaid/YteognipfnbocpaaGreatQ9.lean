/- ints of the law: two equal lists. -/
import Derived.Test.YteognipfnbocpaaGreatQ8
namespace Go.Proofs.YteognipfnbocpaaGreat
open Go.RowKit

set_option maxHeartbeats 800000 in
theorem ints_any (w : World) (v u : Value) (l : List Int) (h1 : w.ownsRow 0 3 1 v l.length (iv l)) (h2 : w.ownsRow 0 3 1 u l.length (iv l)) :
    Calls Tryz.prog 9 #[v, u] w fun e w' => e = .returned (.bool true) ∧ Keeps [] w w' := by
  have hm := own_max h1
  unfold maxLen at hm
  obtain ⟨A, c, rfl, _, _, hA⟩ := own_shape h1
  obtain ⟨B, c2, rfl, _, _, hB⟩ := own_shape h2
  go_enter Tryz.func9, Tryz.ntmps9
  go_wp2
  go_loopw [5] (fun i wr => ∃ k : Nat, k ≤ l.length ∧ i = .int .i64 k ∧ Keeps [] w wr) (fun i _ => l.length - (intOf i).toNat)
  case atStart => exact ⟨0, by omega, rfl, Keeps.refl _ _⟩
  case round =>
    obtain ⟨k, hk, rfl, hkp⟩ := hrel
    by_cases hlt : k < l.length
    · obtain ⟨g, rfl⟩ := hA (by omega)
      obtain ⟨g2, rfl⟩ := hB (by omega)
      have hc : (iv l)[k]? = some (.int .i64 l[k]) := by unfold iv; rw [List.getElem?_map, List.getElem?_eq_getElem hlt]; rfl
      have a0 := own_cell (own_keep h1 hkp (by simp)) hc
      have b0 := own_cell (own_keep h2 hkp (by simp)) hc
      have hi0 : (0 : Int) ≤ (k : Int) := by omega
      have hi1 : (k : Int) < (l.length : Int) := by omega
      generalize l[k] = z at *
      clear hA hB h1 h2 hc
      go_wp2_with fail
      go_quiet (fail)
      go_wp2
      go_roundw
      case rel => exact ⟨k + 1, by omega, by go_num, hkp.drewN _⟩
      case measure => simp [intOf]; omega
    · go_wp2
      go_ret
      exact ⟨rfl, hkp⟩
end Go.Proofs.YteognipfnbocpaaGreat
