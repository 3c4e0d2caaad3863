/- strings.Clone, as the shelf's contract wants it. -/
import Derived.Test.YtiffjaociblboaaW14
import Derived.Shelf.Strconv.Clone
namespace Go.Proofs.Ytiffjaociblboaa
open Go.RowKit Go.Shelf

def cloneA_ren : Go.Shelf.Ren := ⟨fun | 316 => 39 | n => n, fun | 37 => 81 | 127 => 82 | n => n, fun | n => n⟩
theorem cloneA : LaysM.n316 Try.prog cloneA_ren := {
  mixed := by kernel_rfl
  f316 := Try.func39.trans (congrArg some (by kernel_rfl))
  t0 := Try.underlying0
  a0 := Try.isAgg0
  z0 := Try.sizeOf0
  v0 := Try.zeroValue0
  t3 := Try.underlying3
  a3 := Try.isAgg3
  z3 := Try.sizeOf3
  v3 := Try.zeroValue3
  t4 := Try.underlying4
  a4 := Try.isAgg4
  z4 := Try.sizeOf4
  v4 := Try.zeroValue4
  t5 := Try.underlying5
  a5 := Try.isAgg5
  z5 := Try.sizeOf5
  v5 := Try.zeroValue5
  t9 := Try.underlying9
  a9 := Try.isAgg9
  z9 := Try.sizeOf9
  v9 := Try.zeroValue9
  t37 := Try.underlying81
  a37 := Try.isAgg81
  z37 := Try.sizeOf81
  v37 := Try.zeroValue81
  t127 := Try.underlying82
  a127 := Try.isAgg82
  z127 := Try.sizeOf82
  v127 := Try.zeroValue82
  i0 := by kernel_rfl
  i3 := by kernel_rfl
  i4 := by kernel_rfl
  i5 := by kernel_rfl
  i9 := by kernel_rfl
  i37 := by kernel_rfl
  i127 := by kernel_rfl }
theorem clone39_any (w : World) (s : ByteArray) (h : s.size ≤ 1000) : Calls Try.prog 39 #[.string s] w fun e w' => e = .returned (.string s) ∧ Keeps [] w w' :=
  (Any.stringslite_Clone cloneA s w (by omega)).mono fun e w' ⟨h1, h2⟩ => ⟨h1, Keeps.of_below h2 []⟩
theorem clone37_any (w : World) (s : ByteArray) (h : s.size ≤ 1000) : Calls Try.prog 37 #[.string s] w fun e w' => e = .returned (.string s) ∧ Keeps [] w w' := by
  go_enter Try.func37, Try.ntmps37
  go_wp2_with fail
  refine (clone39_any _ s h).mono ?_
  rintro e w1 ⟨rfl, k1⟩
  go_wp2_with fail
  go_ret
  exact ⟨rfl, k1⟩
end Go.Proofs.Ytiffjaociblboaa
