/- The law CellsLook holds: for every input the call returns true, and nothing that was in memory is turned. No condition. -/
import Derived.Test.YtbllmpcpfmlemaaGreatZ10
import Derived.Test.YtbllmpcpfmlemaaGreatOpz
namespace Go.Proofs.YtbllmpcpfmlemaaGreat
open Go.ChangeShapes Go.WideShapes Go.ChangeAt Go.RowKit

set_option maxRecDepth 100000 in
theorem cellsLook_lifted (os : Os) (started : os.Started) (H : Type) (enc : TypeId × Value → H) :
    ReturnsInHanded {} Tryz.checked os 6 .any (Rows.cellsLookSpec.pre6 enc Tryz.prog Tryz.f6 Rows.cellsLookRow.domain false) (Rows.cellsLookSpec.post enc Tryz.prog Tryz.f6 false true false false) := by
  refine returnsInHanded_of_change (C := Tryz.checked) own started (by kernel_rfl) Tryz.func6
    (ChangeSpec.witness6 (enc := enc) (C := Tryz.checked) false ⟨#[], #[.slice none 0 0, .slice none 0 0, .string ⟨#[]⟩], []⟩ 8 (by kernel_rfl) (by kernel_rfl) (by kernel_rfl) (by kernel_rfl)) ?_
  intro W base args ds gs before hval0 hW hcnd _
  have hval : ∀ (j : Nat) t v, Tryz.f6.params[j]? = some t → args[j]? = some v → Value.okWide Tryz.prog W .any base t v := hval0
  have hW' := hW
  obtain ⟨p, q, hA0, hV, rfl, hfz, hnd⟩ := hW
  obtain ⟨rfl, rfl⟩ := trodVars_none hV
  rw [List.append_nil] at hW'
  have hA : DataW.TrodAll enc Tryz.prog W 0 (fun _ => true) true Tryz.f6.params.toList args.toList ds p := hA0
  have hT := hA
  rw [Tryz.params6] at hA hval
  obtain ⟨v0, vs0, d0, ds0, p0, q0, hargs, rfl, rfl, h0, r0⟩ := trodAll_cons hA
  obtain ⟨v1, vs1, d1, ds1, p1, q1, rfl, rfl, rfl, h1, r1⟩ := trodAll_cons r0
  obtain ⟨v2, vs2, d2, ds2, p2, q2, rfl, rfl, rfl, h2, r2⟩ := trodAll_cons r1
  obtain ⟨rfl, rfl, rfl⟩ := trodAll_nil r2
  obtain rfl : args = #[v0, v1, v2] := by cases args; simp_all
  obtain ⟨A0, c0, L0, rfl, o0⟩ := open_ops (hval 0 22 v0 rfl rfl) h0
  obtain ⟨A1, n1, c1, z1, rfl, o1, b1⟩ := open_ints (hval 1 42 v1 rfl rfl) h1
  obtain ⟨s2, rfl, b2⟩ := open_str (hval 2 9 v2 rfl rfl) h2
  refine (look_walk W A0 A1 L0 c0 n1 c1 z1 s2 o0 o1 b1 b2).mono fun e W' ⟨he, hg⟩ => ?_
  subst he
  exact ⟨_, rfl, law_post laidOut hW' hT rfl rfl (fun t ht => by
    rw [Tryz.params6] at ht
    simp at ht
    rcases ht with rfl | rfl | rfl
    all_goals exact ⟨by kernel_rfl, of_decide_eq_true (by kernel_rfl)⟩) (by kernel_rfl) Tryz.underlying4 (hg.below_ (by simp))⟩

theorem cellsLook_over : Rows.cellsLookRow.holds Tryz.pinned (OpenSpec.ofChange Rows.cellsLookSpec) :=
  OpenClaim.holds_of_wide 6 Tryz.f6 rfl rfl rfl rfl rfl rfl rfl ⟨rfl, rfl, rfl, rfl, rfl⟩ rfl rfl rfl rfl rfl (by kernel_rfl) Tryz.func6 (by kernel_rfl)
    (of_decide_eq_true (by kernel_rfl)) (by unfold Func.isWrapper; first | (rw [if_pos (by decide +kernel)]; kernel_rfl) | (rw [if_neg (by decide +kernel)]; exact ⟨rfl, rfl⟩))
    (fun os started H enc _ => cellsLook_lifted os started H enc)

theorem cellsLook_holds : Rows.CellsLookSaid := cellsLook_over
#print axioms cellsLook_holds
end Go.Proofs.YtbllmpcpfmlemaaGreat
