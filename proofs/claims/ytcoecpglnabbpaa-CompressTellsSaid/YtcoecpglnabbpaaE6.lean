/- The reference: Pack. -/
import Derived.Test.YtcoecpglnabbpaaE5
namespace Go.Proofs.Ytcoecpglnabbpaa
open Go.RowKit

set_option maxHeartbeats 1600000 in
set_option maxRecDepth 100000 in
theorem rpack_any (w : World) (s : ByteArray) : Calls Try.prog 9 #[.string s] w fun e w' => e = .returned (.tuple #[.string ⟨(packR (bys s)).1.toArray⟩, .bool (packR (bys s)).2]) ∧ Keeps [] w w' := by
  by_cases hs : s.size = 64
  rotate_left
  · have hr : packR (bys s) = ([], false) := by
      unfold packR packP
      rw [if_neg]
      intro h
      apply hs
      have := h.1
      simpa using this
    rw [hr]
    have ts : ((s.size : Int) != 64) = true := by simp; omega
    clear hs
    go_enter Try.func9, Try.ntmps9
    go_wp2
    go_ret2
    exact ⟨rfl, Keeps.refl _ _⟩
  · have ts : ((s.size : Int) != 64) = false := by simp; omega
    have HF := Lib.hid (rform_any s w (by omega))
    have hr : packR (bys s) = if (form (bys s)).length ≤ 47 then (form (bys s), true) else ([], false) := by
      unfold packR packP
      have hl : (bys s).length = 64 := by simp; exact hs
      by_cases h47 : (form (bys s)).length ≤ 47
      · rw [if_pos h47, if_pos ⟨hl, h47⟩]
      · rw [if_neg h47, if_neg (fun h => h47 h.2)]
    have HR := Lib.hid hr
    clear hs hr
    generalize packR (bys s) = R at *
    generalize form (bys s) = M at *
    go_enter Try.func9, Try.ntmps9
    go_wp2_with fail
    refine HF.out.mono ?_
    rintro e w1 ⟨rfl, k1⟩
    have hsz : (st M).size = M.length := st_size _
    by_cases h47 : M.length ≤ 47
    · have td : decide ((47 : Int) < (st M).size) = false := by simp; omega
      have HQ : Hid (R = (M, true)) := Lib.hid (by rw [HR.out, if_pos h47])
      clear hsz h47 HR HF
      go_wp2_with fail
      go_ret2
      show _ = Ending.returned (.tuple #[.string ⟨R.1.toArray⟩, .bool R.2]) ∧ _
      rw [HQ.out]
      exact ⟨rfl, k1⟩
    · have td : decide ((47 : Int) < (st M).size) = true := by simp; omega
      have HQ : Hid (R = ([], false)) := Lib.hid (by rw [HR.out, if_neg h47])
      clear hsz h47 HR HF
      go_wp2_with fail
      go_ret2
      show _ = Ending.returned (.tuple #[.string ⟨R.1.toArray⟩, .bool R.2]) ∧ _
      rw [HQ.out]
      exact ⟨rfl, k1⟩
end Go.Proofs.Ytcoecpglnabbpaa
