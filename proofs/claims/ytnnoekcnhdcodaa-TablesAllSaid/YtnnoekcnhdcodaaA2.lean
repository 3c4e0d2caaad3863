/- TablesAll: the walk. -/
import Derived.Test.YtnnoekcnhdcodaaA1
namespace Go.Proofs.Ytnnoekcnhdcodaa
open Go.RowKit

set_option maxRecDepth 100000 in
set_option maxHeartbeats 1600000 in
theorem all_any (w : World) (frame step : Int) :
    Calls Try.prog 4 #[.int .i64 frame, .int .i64 step] w fun e w' => e = .returned (.bool true) ∧ Keeps [] w w' := by
  go_enter Try.func4, Try.ntmps4
  go_wp2_with fail
  refine (small_any _).mono ?_
  rintro e w1 ⟨rfl, k1⟩
  go_wp2_with fail
  refine (new_any _).mono ?_
  rintro e w2 ⟨F, p, rfl, r2, k2, f2⟩
  have K2 := k1.trans k2 (by simp)
  have f2 : ∀ g ∈ F, w.heap.size ≤ g := fun g hg => Nat.le_trans k1.size (f2 g hg)
  clear k1 k2
  have hf1 : 0 ≤ bits .and .i64 frame 1023 ∧ bits .and .i64 frame 1023 ≤ 1023 := by rw [and_1023]; omega
  obtain ⟨hs1, hs2, hs3⟩ := or_1 step
  go_wp2_with fail
  generalize bits .and .i64 frame 1023 = fr at hf1 ⊢
  generalize bits .or .i64 step 1 = s at hs1 hs2 hs3 ⊢
  obtain ⟨hf0, hf1⟩ := hf1
  have HS := Lib.hid hs1
  clear hs1
  rw [← allM_zero fr] at r2
  go_loopw [7] (fun i wr => ∃ (k : Nat) (F : List Nat), k ≤ 256 ∧ i = .int .i64 k ∧ TbRep wr F p (allM fr k) ∧ Keeps [] w wr ∧ ∀ g ∈ F, w.heap.size ≤ g) (fun i _ => 256 - (intOf i).toNat)
  case atStart => exact ⟨0, F, by omega, rfl, r2, K2, f2⟩
  case round =>
    clear r2 K2 f2
    obtain ⟨k, F, hk, rfl, r, kp, fr1⟩ := hrel
    by_cases hlt : k < 256
    · have HN := Lib.hid (mapN_ok (n := k) hf0 hlt)
      have HM := Lib.hid (allM_succ (n := k) hf0 hlt)
      have hx := map_any wr F p (allM fr k) k (fr + k) (evn k) r (by omega) (by omega) (by omega) (by omega)
      rw [HN.out, HM.out] at hx
      unfold evn at hx
      have HX := Lib.hid hx
      clear hx HM HN
      go_wp2_with fail
      refine HX.out.mono ?_
      rintro e w3 ⟨F3, rfl, r3, k3, f3⟩
      have K3 := kp.trans k3 (fun g hg => .inr (fr1 g hg))
      have hsz := kp.size
      have f3 : ∀ g ∈ F3, w.heap.size ≤ g := fun g hg => by rcases f3 g hg with h | h; exact fr1 g h; omega
      clear k3 r kp fr1 HX
      go_wp2
      go_roundw
      case rel => exact ⟨k + 1, F3, by omega, by go_num, r3, K3, f3⟩
      case measure => simp [intOf]; omega
    · obtain rfl : k = 256 := by omega
      go_wp2_with fail
      refine (levels_any _ F p _ r).mono ?_
      rw [allM_levs]
      rintro e w3 ⟨rfl, rfl⟩
      go_wp2_with fail
      refine (entries_any _ F p _ r).mono ?_
      rw [allM_ents]
      rintro e w3 ⟨v, rfl, o3, k3, -⟩
      obtain ⟨A, cap, rfl, -⟩ := own_shape o3
      have r4 := r.keep k3 (by simp)
      have K4 := kp.trans k3 (by simp)
      clear o3 k3 r kp
      rw [← remM_zero fr s] at r4
      go_wp2_with fail
      go_loopw [8, 9, 10, 11] (fun a i _ _ wr => ∃ (k : Nat), k ≤ 256 ∧ i = .int .i64 k ∧ a = .int .i64 (atI s k : Nat) ∧ TbRep wr F p (remM fr s k) ∧ Keeps [] w wr) (fun _ i _ _ _ => 256 - (intOf i).toNat)
      case atStart => exact ⟨0, by omega, rfl, by rw [atI_zero]; rfl, r4, K4⟩
      case round =>
        clear r4 K4
        obtain ⟨k, hk, rfl, rfl, r, kp⟩ := hrel
        by_cases hlt : k < 256
        · have e1 := atI_succ s k
          have hx := walk_any wr F p (remM fr s k) (atI s (k + 1) : Nat) true r (by omega) (by have := atI_lt s (k + 1); omega)
          have hy := fun W (h : TbRep W F p (wlkM (remM fr s k) (atI s (k + 1) : Nat) true)) => unmap_any W F p _ (atI s (k + 1) : Nat) h (by omega) (by have := atI_lt s (k + 1); omega)
          rw [remM_n HS.out hlt, remM_b HS.out hlt] at hx
          simp only [remM_u HS.out hlt, remM_succ HS.out hlt] at hy
          have hat := atI_lt s (k + 1)
          have h0 : (0 : Int) ≤ (atI s (k + 1) : Nat) := by omega
          generalize hA : atI s (k + 1) = a at *
          unfold evn at hx
          cases hb : (bits .and .i64 (a : Int) 1 == 0)
          all_goals
            rw [hb] at hx
            try simp only [if_true] at hx
            try simp only [Bool.false_eq_true, if_false] at hx
            have HY := Lib.hid hy
            have HX := Lib.hid hx
            have HA := Lib.hid hA
            clear hx hy hA
            go_wp2_with fail
            refine HX.out.mono ?_
            rintro e w3 ⟨rfl, r3, k3⟩
            have K3 := kp.trans k3 (fun g hg => .inr (fr1 g hg))
            clear k3 r kp HX
            go_wp2_with fail
            refine (HY.out _ r3).mono ?_
            rintro e w4 ⟨rfl, r4, k4⟩
            have K4 := K3.trans k4 (fun g hg => .inr (fr1 g hg))
            clear r3 K3 k4 HY
            go_wp2
            go_roundw
            case rel => exact ⟨k + 1, by omega, by go_num, by rw [HA.out], r4, K4⟩
            case measure => simp [intOf]; omega
        · obtain rfl : k = 256 := by omega
          have hl := levels_any wr F p _ r
          rw [levs_no (remM_end HS.out)] at hl
          have he := entries_any wr F p _ r
          rw [ents_no (remM_end HS.out)] at he
          go_wp2_with fail
          refine hl.mono ?_
          rintro e w5 ⟨rfl, rfl⟩
          go_wp2_with fail
          refine he.mono ?_
          rintro e w5 ⟨v, rfl, o5, k5, -⟩
          obtain ⟨A, cap, rfl, -⟩ := own_shape o5
          clear he hl
          go_wp2
          go_ret
          exact ⟨rfl, kp.trans k5 (by simp)⟩
end Go.Proofs.Ytnnoekcnhdcodaa
