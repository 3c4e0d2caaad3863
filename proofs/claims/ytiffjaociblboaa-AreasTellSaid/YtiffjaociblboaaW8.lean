/- Can, Free and the reference's. -/
import Derived.Test.YtiffjaociblboaaW7
import Derived.Test.YtiffjaociblboaaP2
namespace Go.Proofs.Ytiffjaociblboaa
open Go.RowKit

theorem canP_none {L : List Ar} {p : Int} (h : fnd L p = none) (wr : Bool) : canP L wr p = false := by unfold canP; rw [h]
theorem canP_some {L : List Ar} {p : Int} {x : Ar} (h : fnd L p = some x) (wr : Bool) : canP L wr p = (!wr || x.w) := by unfold canP; rw [h]
theorem fndV_none {L : List Ar} {p : Int} (h : fnd L p = none) : fndV L p = zA := by unfold fndV; rw [h]; rfl
theorem fndV_some {L : List Ar} {p : Int} {x : Ar} (h : fnd L p = some x) : fndV L p = x := by unfold fndV; rw [h]; rfl
set_option maxRecDepth 100000 in
set_option maxHeartbeats 6400000 in
theorem can_any (w : World) (A : Option Addr) (L : List Ar) (c : Nat) (a n : Int) (wb : Bool) (ha : AtL w A L) (hv : Vds L) :
    Calls Try.prog 22 #[.slice A L.length c, .int .i64 a, .int .i64 n, .bool wb] w fun e w' => e = .returned (.bool (canB L a n wb)) ∧ Keeps [] w w' := by
  have HH := Lib.hid ha
  have HV := Lib.hid hv
  obtain ⟨V, hV⟩ : ∃ V, canB L a n wb = V := ⟨_, rfl⟩
  rw [hV]
  have HVV := Lib.hid hV
  clear ha hv hV
  by_cases g1 : n < 0
  · have HE : Hid (V = false) := Lib.hid (by rw [← HVV.out]; unfold canB; rw [if_pos g1])
    go_enter Try.func22, Try.ntmps22
    go_wp2_with fail
    go_ret
    exact ⟨ret_bool HE.out.symm, Keeps.refl _ _⟩
  by_cases g2 : n = 0
  · have HE : Hid (V = true) := Lib.hid (by rw [← HVV.out]; unfold canB; rw [if_neg g1, if_pos g2])
    subst g2
    go_enter Try.func22, Try.ntmps22
    go_wp2_with fail
    go_ret
    exact ⟨ret_bool HE.out.symm, Keeps.refl _ _⟩
  have g0 : 0 < n := by omega
  clear g1
  by_cases g3 : 0 ≤ a ∧ n ≤ 16384 ∧ a ≤ 16384 - n
  rotate_left
  · have HE : Hid (V = false) := Lib.hid (by rw [← HVV.out]; unfold canB; rw [if_neg (by omega), if_neg g2, if_neg (by unfold canR; simpa using g3)])
    by_cases g4 : a < 0
    · clear g3
      go_enter Try.func22, Try.ntmps22
      go_wp2_with fail
      go_ret
      exact ⟨ret_bool HE.out.symm, Keeps.refl _ _⟩
    by_cases g5 : 16384 < n
    · have g4' : 0 ≤ a := by omega
      clear g3 g4
      go_enter Try.func22, Try.ntmps22
      go_wp2_with fail
      go_ret
      exact ⟨ret_bool HE.out.symm, Keeps.refl _ _⟩
    have g4' : 0 ≤ a := by omega
    have g5' : n ≤ 16384 := by omega
    have g6 : 16384 - n < a := by omega
    clear g3 g4 g5
    go_enter Try.func22, Try.ntmps22
    go_wp2_with fail
    go_ret
    exact ⟨ret_bool HE.out.symm, Keeps.refl _ _⟩
  have HP : Hid (V = pgs L wb (a / 64) ((a + n - 1) / 64)) := Lib.hid (by rw [← HVV.out]; unfold canB; rw [if_neg (by omega), if_neg g2, if_pos (by unfold canR; simpa using g3)])
  obtain ⟨h1, h2, h3⟩ := g3
  have HG2 := Lib.hid g2
  clear g2
  obtain ⟨P1, hP1⟩ : ∃ z, z = (a + n - 1) / 64 := ⟨_, rfl⟩
  obtain ⟨P0, hP0⟩ : ∃ z, z = a / 64 := ⟨_, rfl⟩
  rw [← hP0, ← hP1] at HP
  have hp0 : 0 ≤ P0 := by omega
  have hp1 : P0 ≤ P1 := by omega
  have hp2 : P1 ≤ 256 := by omega
  have HP1 := Lib.hid hP1
  have HP0 := Lib.hid hP0
  clear hP0 hP1
  have hdec : decide (n = 0) = false := decide_eq_false HG2.out
  have hdec2 : (n == 0) = false := by simpa using HG2.out
  go_enter Try.func22, Try.ntmps22
  go_wp2_with fail
  clear hdec hdec2
  rw [← HP0.out]
  go_loopw [9] (fun i wr => ∃ q : Int, P0 ≤ q ∧ q ≤ P1 + 1 ∧ i = .int .i64 q ∧ (∀ r, P0 ≤ r → r < q → canP L wb r = true) ∧ Keeps [] w wr) (fun i _ => (P1 + 1 - intOf i).toNat)
  case atStart => exact ⟨P0, by omega, by omega, rfl, fun r h1 h2 => by omega, Keeps.refl _ _⟩
  case round =>
    obtain ⟨q, hq0, hq1, rfl, hr, kp⟩ := hrel
    have HR := Lib.hid hr
    have HK := Lib.hid kp
    clear hr kp
    by_cases hq : q ≤ P1
    · have hPe : (a + n - 1) / 64 = P1 := HP1.out.symm
      have C1 := find_any wr A L c (q) (HH.out.keep HK.out) HV.out
      cases hx : fnd L (q) with
      | none =>
        have hcp := canP_none hx wb
        rw [fndV_none hx, hx] at C1
        unfold Ar.v zA at C1
        have HC1 := Lib.hid C1
        have HCP := Lib.hid hcp
        clear hx hcp C1
        go_wp2_with fail
        refine HC1.out.mono ?_
        rintro e w1 ⟨rfl, k1⟩
        have K1 := Lib.hid ((HK.out.trans k1 (by simp)).alloc (.cells #[.int .i64 0, .int .i64 0, .string ⟨#[]⟩, .int .i64 0, .bool false, .bool false] 24))
        clear k1 HC1
        go_wp2_with fail
        go_ret
        exact ⟨ret_bool (by rw [HP.out]; exact (pgs_false hq0 hq (by rw [HCP.out]; try rfl)).symm), K1.out⟩
      | some x =>
        have hcp := canP_some hx wb
        rw [fndV_some hx, hx] at C1
        obtain ⟨xa, xn, xo, xf, xs, xw⟩ := x
        unfold Ar.v at C1
        dsimp only at C1 hcp
        clear hx
        cases wb <;> cases xw
        · have HC1 := Lib.hid C1
          have HCP := Lib.hid hcp
          clear hcp C1
          go_wp2_with fail
          refine HC1.out.mono ?_
          rintro e w1 ⟨rfl, k1⟩
          have K1 := Lib.hid ((HK.out.trans k1 (by simp)).alloc (.cells #[.int .i64 xa, .int .i64 xn, .string xo, .int .i64 xf, .bool xs, .bool false] 24))
          clear k1 HC1
          go_wp2_with fail
          go_roundw
          case rel => exact ⟨q + 1, by omega, by omega, rfl, fun r h1 h2 => by
            by_cases e : r = q
            · rw [e, HCP.out]; rfl
            · exact HR.out r h1 (by omega), K1.out⟩
          case measure => simp [intOf]; omega
        · have HC1 := Lib.hid C1
          have HCP := Lib.hid hcp
          clear hcp C1
          go_wp2_with fail
          refine HC1.out.mono ?_
          rintro e w1 ⟨rfl, k1⟩
          have K1 := Lib.hid ((HK.out.trans k1 (by simp)).alloc (.cells #[.int .i64 xa, .int .i64 xn, .string xo, .int .i64 xf, .bool xs, .bool true] 24))
          clear k1 HC1
          go_wp2_with fail
          go_roundw
          case rel => exact ⟨q + 1, by omega, by omega, rfl, fun r h1 h2 => by
            by_cases e : r = q
            · rw [e, HCP.out]; rfl
            · exact HR.out r h1 (by omega), K1.out⟩
          case measure => simp [intOf]; omega
        · have HC1 := Lib.hid C1
          have HCP := Lib.hid hcp
          clear hcp C1
          go_wp2_with fail
          refine HC1.out.mono ?_
          rintro e w1 ⟨rfl, k1⟩
          have K1 := Lib.hid ((HK.out.trans k1 (by simp)).alloc (.cells #[.int .i64 xa, .int .i64 xn, .string xo, .int .i64 xf, .bool xs, .bool false] 24))
          clear k1 HC1
          go_wp2_with fail
          go_ret
          exact ⟨ret_bool (by rw [HP.out]; exact (pgs_false hq0 hq (by rw [HCP.out]; try rfl)).symm), K1.out⟩
        · have HC1 := Lib.hid C1
          have HCP := Lib.hid hcp
          clear hcp C1
          go_wp2_with fail
          refine HC1.out.mono ?_
          rintro e w1 ⟨rfl, k1⟩
          have K1 := Lib.hid ((HK.out.trans k1 (by simp)).alloc (.cells #[.int .i64 xa, .int .i64 xn, .string xo, .int .i64 xf, .bool xs, .bool true] 24))
          clear k1 HC1
          go_wp2_with fail
          go_roundw
          case rel => exact ⟨q + 1, by omega, by omega, rfl, fun r h1 h2 => by
            by_cases e : r = q
            · rw [e, HCP.out]; rfl
            · exact HR.out r h1 (by omega), K1.out⟩
          case measure => simp [intOf]; omega
    · have hq' : P1 < q := by omega
      have hPe : (a + n - 1) / 64 = P1 := HP1.out.symm
      have HE : Hid (V = true) := Lib.hid (by rw [HP.out]; exact pgs_true (fun r a b => HR.out r a (by omega)))
      clear hq
      go_wp2_with fail
      go_ret
      exact ⟨ret_bool HE.out.symm, HK.out⟩
set_option maxRecDepth 100000 in
set_option maxHeartbeats 6400000 in
theorem rcan_any (w : World) (A : Option Addr) (L : List Ar) (c : Nat) (a n : Int) (wb : Bool) (ha : AtL w A L) (hv : Vds L) :
    Calls Try.prog 23 #[.slice A L.length c, .int .i64 a, .int .i64 n, .bool wb] w fun e w' => e = .returned (.bool (canB L a n wb)) ∧ Keeps [] w w' := by
  have HH := Lib.hid ha
  have HV := Lib.hid hv
  obtain ⟨V, hV⟩ : ∃ V, canB L a n wb = V := ⟨_, rfl⟩
  rw [hV]
  have HVV := Lib.hid hV
  clear ha hv hV
  by_cases g1 : n < 0
  · have HE : Hid (V = false) := Lib.hid (by rw [← HVV.out]; unfold canB; rw [if_pos g1])
    go_enter Try.func23, Try.ntmps23
    go_wp2_with fail
    go_ret
    exact ⟨ret_bool HE.out.symm, Keeps.refl _ _⟩
  have g1' : 0 ≤ n := by omega
  clear g1
  by_cases g2 : n = 0
  · have HE : Hid (V = true) := Lib.hid (by rw [← HVV.out]; unfold canB; rw [if_neg (by omega), if_pos g2])
    subst g2
    go_enter Try.func23, Try.ntmps23
    go_wp2_with fail
    go_loopw [10] (fun i wr => i = .int .i64 0 ∧ w = wr) (fun _ _ => 0)
    case atStart => exact ⟨rfl, rfl⟩
    case round =>
      obtain ⟨rfl, rfl⟩ := hrel
      go_wp2_with fail
      go_ret
      exact ⟨ret_bool HE.out.symm, Keeps.refl _ _⟩
  have g0 : 0 < n := by omega
  by_cases g3 : 0 ≤ a ∧ n ≤ 16384 ∧ a ≤ 16384 - n
  rotate_left
  · have HE : Hid (V = false) := Lib.hid (by rw [← HVV.out]; unfold canB; rw [if_neg (by omega), if_neg g2, if_neg (by unfold canR; simpa using g3)])
    clear g2
    by_cases g4 : a < 0
    · clear g3
      go_enter Try.func23, Try.ntmps23
      go_wp2_with fail
      go_ret
      exact ⟨ret_bool HE.out.symm, Keeps.refl _ _⟩
    by_cases g5 : 16384 < n
    · have g4' : 0 ≤ a := by omega
      clear g3 g4
      go_enter Try.func23, Try.ntmps23
      go_wp2_with fail
      go_ret
      exact ⟨ret_bool HE.out.symm, Keeps.refl _ _⟩
    have g4' : 0 ≤ a := by omega
    have g5' : n ≤ 16384 := by omega
    have g6 : 16384 - n < a := by omega
    clear g3 g4 g5
    go_enter Try.func23, Try.ntmps23
    go_wp2_with fail
    go_ret
    exact ⟨ret_bool HE.out.symm, Keeps.refl _ _⟩
  have HCR : Hid (canR a n = true) := Lib.hid (by unfold canR; simpa using g3)
  obtain ⟨h1, h2, h3⟩ := g3
  clear g2
  go_enter Try.func23, Try.ntmps23
  go_wp2_with fail
  go_loopw [10] (fun i wr => ∃ q : Int, 0 ≤ q ∧ q ≤ n ∧ i = .int .i64 q ∧ (∀ r, 0 ≤ r → r < q → canP L wb ((a + r) / 64) = true) ∧ Keeps [] w wr) (fun i _ => (n - intOf i).toNat)
  case atStart => exact ⟨0, by omega, by omega, rfl, fun r h1 h2 => by omega, Keeps.refl _ _⟩
  case round =>
    obtain ⟨q, hq0, hq1, rfl, hr, kp⟩ := hrel
    have HR := Lib.hid hr
    have HK := Lib.hid kp
    clear hr kp
    by_cases hq : q < n
    · have hz : 0 ≤ a + q := by omega
      have C1 := rfind_any wr A L c ((a + q) / 64) (HH.out.keep HK.out) HV.out
      cases hx : fnd L ((a + q) / 64) with
      | none =>
        have hcp := canP_none hx wb
        rw [fndV_none hx, hx] at C1
        unfold Ar.v zA at C1
        have HC1 := Lib.hid C1
        have HCP := Lib.hid hcp
        clear hx hcp C1
        go_wp2_with fail
        refine HC1.out.mono ?_
        rintro e w1 ⟨rfl, k1⟩
        have K1 := Lib.hid ((HK.out.trans k1 (by simp)).alloc (.cells #[.int .i64 0, .int .i64 0, .string ⟨#[]⟩, .int .i64 0, .bool false, .bool false] 24))
        clear k1 HC1
        go_wp2_with fail
        go_ret
        exact ⟨ret_bool (by rw [← HVV.out]; exact (canB_false hq0 hq HCR.out (by rw [HCP.out]; try rfl)).symm), K1.out⟩
      | some x =>
        have hcp := canP_some hx wb
        rw [fndV_some hx, hx] at C1
        obtain ⟨xa, xn, xo, xf, xs, xw⟩ := x
        unfold Ar.v at C1
        dsimp only at C1 hcp
        clear hx
        cases wb <;> cases xw
        · have HC1 := Lib.hid C1
          have HCP := Lib.hid hcp
          clear hcp C1
          go_wp2_with fail
          refine HC1.out.mono ?_
          rintro e w1 ⟨rfl, k1⟩
          have K1 := Lib.hid ((HK.out.trans k1 (by simp)).alloc (.cells #[.int .i64 xa, .int .i64 xn, .string xo, .int .i64 xf, .bool xs, .bool false] 24))
          clear k1 HC1
          go_wp2_with fail
          go_roundw
          case rel => exact ⟨q + 1, by omega, by omega, rfl, fun r h1 h2 => by
            by_cases e : r = q
            · rw [e, HCP.out]; rfl
            · exact HR.out r h1 (by omega), K1.out⟩
          case measure => simp [intOf]; omega
        · have HC1 := Lib.hid C1
          have HCP := Lib.hid hcp
          clear hcp C1
          go_wp2_with fail
          refine HC1.out.mono ?_
          rintro e w1 ⟨rfl, k1⟩
          have K1 := Lib.hid ((HK.out.trans k1 (by simp)).alloc (.cells #[.int .i64 xa, .int .i64 xn, .string xo, .int .i64 xf, .bool xs, .bool true] 24))
          clear k1 HC1
          go_wp2_with fail
          go_roundw
          case rel => exact ⟨q + 1, by omega, by omega, rfl, fun r h1 h2 => by
            by_cases e : r = q
            · rw [e, HCP.out]; rfl
            · exact HR.out r h1 (by omega), K1.out⟩
          case measure => simp [intOf]; omega
        · have HC1 := Lib.hid C1
          have HCP := Lib.hid hcp
          clear hcp C1
          go_wp2_with fail
          refine HC1.out.mono ?_
          rintro e w1 ⟨rfl, k1⟩
          have K1 := Lib.hid ((HK.out.trans k1 (by simp)).alloc (.cells #[.int .i64 xa, .int .i64 xn, .string xo, .int .i64 xf, .bool xs, .bool false] 24))
          clear k1 HC1
          go_wp2_with fail
          go_ret
          exact ⟨ret_bool (by rw [← HVV.out]; exact (canB_false hq0 hq HCR.out (by rw [HCP.out]; try rfl)).symm), K1.out⟩
        · have HC1 := Lib.hid C1
          have HCP := Lib.hid hcp
          clear hcp C1
          go_wp2_with fail
          refine HC1.out.mono ?_
          rintro e w1 ⟨rfl, k1⟩
          have K1 := Lib.hid ((HK.out.trans k1 (by simp)).alloc (.cells #[.int .i64 xa, .int .i64 xn, .string xo, .int .i64 xf, .bool xs, .bool true] 24))
          clear k1 HC1
          go_wp2_with fail
          go_roundw
          case rel => exact ⟨q + 1, by omega, by omega, rfl, fun r h1 h2 => by
            by_cases e : r = q
            · rw [e, HCP.out]; rfl
            · exact HR.out r h1 (by omega), K1.out⟩
          case measure => simp [intOf]; omega
    · have hq' : n ≤ q := by omega
      have HE : Hid (V = true) := Lib.hid (by rw [← HVV.out]; exact canB_true g0 HCR.out (fun r a b => HR.out r a (by omega)))
      clear hq
      go_wp2_with fail
      go_ret
      exact ⟨ret_bool HE.out.symm, HK.out⟩
end Go.Proofs.Ytiffjaociblboaa
