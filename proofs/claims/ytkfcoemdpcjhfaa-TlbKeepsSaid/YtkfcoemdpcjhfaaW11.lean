/- has. -/
import Derived.Test.YtkfcoemdpcjhfaaW10
namespace Go.Proofs.Ytkfcoemdpcjhfaa
open Go.RowKit

theorem eql_en (w : World) (a b : En) : (binOp .eql 34 (.agg #[.int .i64 a.s, .int .i64 a.p, .int .i64 a.f, .bool a.w]) (.agg #[.int .i64 b.s, .int .i64 b.p, .int .i64 b.f, .bool b.w])).run Try.prog w = .ok (.bool (decide (a = b))) w := by
  have u3 := Try.underlying3
  have u4 := Try.underlying4
  have a3 := Try.isAgg3
  have z3 := Try.sizeOf3
  have a4 := Try.isAgg4
  have z4 := Try.sizeOf4
  have hS : Try.prog.underlying 34 = some (.struct (Try.prog.fieldsOf 34)) := by kernel_rfl
  have hp : Try.prog.stoodInHeld 34 = false := by kernel_rfl
  rw [run_eql_struct, show (10000 : Nat) = 9999 + 1 from rfl, run_equalIn_agg w 9999 34 _ _ hS hp]
  simp only [Program.fieldsOf, Try.underlying34]
  go_simp
  obtain ⟨a1, a2, a3, a4⟩ := a
  obtain ⟨b1, b2, b3, b4⟩ := b
  by_cases h1 : a1 = b1 <;> by_cases h2 : a2 = b2 <;> by_cases h3 : a3 = b3 <;> by_cases h4 : a4 = b4 <;> simp [h1, h2, h3, h4]

set_option maxRecDepth 100000 in
set_option maxHeartbeats 1600000 in
theorem has_any (w : World) (v : Value) (L : List En) (x : En) (hn : L.length ≤ 1000000) (h1 : w.ownsRow 0 34 4 v L.length (es L)) :
    Calls Try.prog 13 #[v, .agg #[.int .i64 x.s, .int .i64 x.p, .int .i64 x.f, .bool x.w]] w fun e w' => e = .returned (.bool (decide (x ∈ L))) ∧ Keeps [] w w' := by
  obtain ⟨A, c, rfl, _, _, hA⟩ := own_shape h1
  have kA : Keeps [] w (w.alloc (.cells #[.int .i64 x.s, .int .i64 x.p, .int .i64 x.f, .bool x.w] 34)) := (Keeps.refl _ _).alloc _
  have bA : Blk (w.alloc (.cells #[.int .i64 x.s, .int .i64 x.p, .int .i64 x.f, .bool x.w] 34)) w.heap.size 34 #[.int .i64 x.s, .int .i64 x.p, .int .i64 x.f, .bool x.w] := Blk.new _ _ _
  go_enter Try.func13, Try.ntmps13
  go_wp2
  go_loopw [5] (fun i wr => ∃ k : Nat, k ≤ L.length ∧ i = .int .i64 k ∧ (∀ j (h : j < L.length), j < k → L[j] ≠ x) ∧ Keeps [] w wr ∧ Blk wr w.heap.size 34 #[.int .i64 x.s, .int .i64 x.p, .int .i64 x.f, .bool x.w]) (fun i _ => L.length - (intOf i).toNat)
  case atStart => exact ⟨0, by omega, rfl, fun _ _ h => absurd h (by omega), kA, bA⟩
  case round =>
    clear kA bA
    obtain ⟨k, hk, rfl, hst, kp, bp⟩ := hrel
    have HST := Lib.hid hst
    clear hst
    by_cases hlt : k < L.length
    · obtain ⟨g, rfl⟩ := hA (by omega)
      have o1 := own_keep h1 kp (by simp)
      have a0 := own_cell o1 (j := k * 4) (u := .int .i64 L[k].s) (by rw [show k * 4 = k * 4 + 0 by omega, es_at hlt (by omega)]; rfl)
      have a1 := own_cell o1 (j := k * 4 + 1) (u := .int .i64 L[k].p) (by rw [es_at hlt (by omega)]; rfl)
      have a2 := own_cell o1 (j := k * 4 + 2) (u := .int .i64 L[k].f) (by rw [es_at hlt (by omega)]; rfl)
      have a3 := own_cell o1 (j := k * 4 + 3) (u := .bool L[k].w) (by rw [es_at hlt (by omega)]; rfl)
      have b0 := bp.cell 0
      have b1 := bp.cell 1
      have b2 := bp.cell 2
      have b3 := bp.cell 3
      have hi0 : (0 : Int) ≤ (k : Int) := by omega
      have hi1 : (k : Int) < (L.length : Int) := by omega
      have he := fun W => eql_en W L[k] x
      by_cases hx : L[k] = x
      · have hm : decide (x ∈ L) = true := decide_eq_true (hx ▸ List.getElem_mem hlt)
        have HM := Lib.hid hm
        rw [decide_eq_true hx] at he
        clear hm hx o1
        go_wp2_with fail
        go_quiet (fail)
        go_wp2
        go_ret
        rw [HM.out]
        exact ⟨rfl, kp.drewN _⟩
      · rw [decide_eq_false hx] at he
        have HX := Lib.hid hx
        clear hx o1
        go_wp2_with fail
        go_quiet (fail)
        go_wp2
        go_roundw
        case rel =>
          refine ⟨k + 1, by omega, by go_num, fun j hj hjk => ?_, kp.drewN _, bp.drewN _⟩
          by_cases e : j = k
          · subst e; exact HX.out
          · exact HST.out j hj (by omega)
        case measure => simp [intOf]; omega
    · obtain rfl : k = L.length := by omega
      have hm : decide (x ∈ L) = false := by
        simp only [decide_eq_false_iff_not]
        intro hx
        obtain ⟨j, hj, e⟩ := List.getElem_of_mem hx
        exact HST.out j hj hj e
      have HM := Lib.hid hm
      clear hm
      go_wp2
      go_ret
      rw [HM.out]
      exact ⟨rfl, kp⟩
end Go.Proofs.Ytkfcoemdpcjhfaa
