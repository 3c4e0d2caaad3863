/- many; small. -/
import Derived.Test.YtcoecpglnabbpaaW7
import Derived.Lib.BufferRead
namespace Go.Proofs.Ytcoecpglnabbpaa
open Go.RowKit

abbrev bc (l : Bs) : List Value := Lib.byteCells l
theorem bc_one (l : Bs) : ∀ u ∈ bc l, u.oneCell' = true := by
  intro u hu
  obtain ⟨x, _, rfl⟩ := List.mem_map.1 hu
  rfl
theorem bc_len (l : Bs) : (bc l).length = l.length := Lib.byteCells_length l
/-- 'string(b)' of a row of one's own. -/
theorem run_str {w : World} {A : Option Addr} {n c : Nat} {l : Bs} (h : w.ownsRow 0 5 1 (.slice A n c) n (bc l)) : (convert 27 9 (.slice A n c)).run Try.prog w = .ok (.string ⟨l.toArray⟩) w := by
  have hl : n = l.length := by have := h.1; rw [bc_len] at this; omega
  subst hl
  obtain ⟨A', c', hv, -, -, hA⟩ := own_shape h
  injection hv with h1 _ h3
  subst h1 h3
  cases l with
  | nil =>
    rcases h.2 with ⟨h2, _⟩ | ⟨g, cap, cur, h2, _⟩
    · injection h2 with h3 h4 h5
      subst h3 h5
      exact Lib.run_convert_nil_bytes w 27 9 5 0 Try.underlying27 Try.underlying5 Try.underlying9
    · injection h2 with h3 h4 h5
      subst h3
      exact run_convert_bytes_back w 27 9 5 _ c [] Try.underlying27 Try.underlying5 Try.underlying9 (fun j hj => by simp at hj)
  | cons x r =>
    obtain ⟨g, rfl⟩ := hA (by simp)
    refine run_convert_bytes_back w 27 9 5 ⟨g, 0, none⟩ c (x :: r) Try.underlying27 Try.underlying5 Try.underlying9 (fun j hj => ?_)
    rw [add_of_plain, Nat.zero_add]
    exact own_cell h (by unfold bc Lib.byteCells; rw [List.getElem?_map, List.getElem?_eq_getElem hj]; rfl)
theorem rep_snoc (n : Nat) (b : UInt8) : bc (List.replicate (n + 1) b) = bc (List.replicate n b) ++ [.int .u8 b.toNat] := by
  unfold bc; rw [List.replicate_succ', Lib.byteCells_append]; rfl

set_option maxHeartbeats 1600000 in
set_option maxRecDepth 100000 in
theorem many_any (w : World) (b : UInt8) (n : Nat) (hn : n ≤ 1000) : Calls Try.prog 12 #[.int .u8 b.toNat, .int .i64 n] w fun e w' => e = .returned (.string ⟨(List.replicate n b).toArray⟩) ∧ Keeps [] w w' := by
  have HI := Lib.hid info5
  go_enter Try.func12, Try.ntmps12
  go_wp2
  go_loopw [5, 6] (fun v i wr => ∃ k : Nat, k ≤ n ∧ i = .int .i64 k ∧ wr.ownsRow 0 5 1 v k (bc (List.replicate k b)) ∧ (∀ g ∈ fp v, w.heap.size ≤ g) ∧ Keeps [] w wr) (fun _ i _ => n - (intOf i).toNat)
  case atStart => exact ⟨0, by omega, rfl, World.ownsRow_nil _ _ _ _, by simp, Keeps.refl _ _⟩
  case round =>
    obtain ⟨k, hk, rfl, ov, fv, kp⟩ := hrel
    obtain ⟨Av, cv, rfl, -, -, -⟩ := own_shape ov
    by_cases hlt : k < n
    · have HO := Lib.hid (fun W (hW : Keeps [] wr W) => own_keep ov hW (by simp))
      go_wp2_with (at_builtin; refine wpList_app _ rfl (.tmp 12) (.tmp 14) _ rfl 5 (.int .u8 0) 1 1 Try.underlying27 HI.out rfl (by omega) (.slice Av k cv) _ _ rfl (HO.out _ ((Keeps.refl [] _).alloc _)) _ _ _ _ [.int .u8 b.toNat] rfl (reads_one wr (.int .u8 b.toNat) 5) (by simp [Value.oneCell']) (by unfold maxLen; omega) (by omega) ?_)
      intro v6 w6 o6 k6 f6
      have kk := (kp.alloc (.cells #[.int .u8 b.toNat] 5)).trans k6 (fun g hg => .inr (fv g hg))
      have hz := kp.size
      clear HO
      go_wp2_with fail
      go_roundw
      case rel =>
        refine ⟨k + 1, by omega, by go_num, by rw [rep_snoc]; exact o6, fun g hg => ?_, kk⟩
        rcases f6 g hg with h1 | h1
        · exact fv g h1
        · first | omega | (simp at h1; omega)
      case measure => simp [intOf]; omega
    · obtain rfl : k = n := by omega
      have hc := run_str ov
      go_wp2
      go_ret
      exact ⟨rfl, kp⟩
end Go.Proofs.Ytcoecpglnabbpaa
