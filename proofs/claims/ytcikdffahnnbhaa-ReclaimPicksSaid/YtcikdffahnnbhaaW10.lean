/- The walk of small. -/
import Derived.Test.YtcikdffahnnbhaaW9
namespace Go.Proofs.Ytcikdffahnnbhaa
open Go.RowKit
def z1 : Ck := (ck0 3).use 0 7
def z2 : Ck := z1.use 1 7
def z3 : Ck := z2.use 2 8
def z4 : Ck := z3.picked
def z5 : Ck := z4.touch 1
def z6 : Ck := z5.picked
theorem z3_v : max (z3.nw 7) (z3.bf 7) = 2 ∧ z3.us 7 = 2 ∧ z3.pickF = 0 ∧ z3.victim.2 = true ∧ z4.h = 1 ∧ z5.pickF = 2 ∧ z5.victim.2 = true ∧ z6.own 2 = 8 ∧ z6.used 2 = true := by
  refine ⟨by kernel_rfl, by kernel_rfl, by kernel_rfl, by kernel_rfl, by kernel_rfl, by kernel_rfl, by kernel_rfl, by kernel_rfl, by kernel_rfl⟩
set_option maxRecDepth 100000 in
set_option maxHeartbeats 1600000 in
theorem small_any (w : World) : Calls Try.prog 6 #[] w fun e w' => e = .returned (.bool true) ∧ Keeps [] w w' := by
  obtain ⟨v1, v2, v3, v4, v5, v6, v7, v8, v9⟩ := z3_v
  go_enter Try.func6, Try.ntmps6
  go_wp2_with fail
  refine (new_any _ 3 (by omega) (by omega)).mono ?_
  rintro e w1 ⟨F, p, rfl, r1, k1, f1⟩
  go_wp2_with fail
  refine (use_any _ F p (ck0 3) 0 7 r1 (by decide) (by omega) (by omega)).mono ?_
  rintro e w2 ⟨rfl, r2, k2⟩
  have r2 : CkRep w2 F p z1 := r2
  have K2 := k1.trans k2 (fun g hg => .inr (f1 g hg))
  clear r1 k1 k2
  go_wp2_with fail
  refine (use_any _ F p z1 1 7 r2 (by decide) (by omega) (by omega)).mono ?_
  rintro e w3 ⟨rfl, r3, k3⟩
  have r3 : CkRep w3 F p z2 := r3
  have K3 := K2.trans k3 (fun g hg => .inr (f1 g hg))
  clear r2 k3 K2
  go_wp2_with fail
  refine (use_any _ F p z2 2 8 r3 (by decide) (by omega) (by omega)).mono ?_
  rintro e w4 ⟨rfl, r4, k4⟩
  have r4 : CkRep w4 F p z3 := r4
  have K4 := K3.trans k4 (fun g hg => .inr (f1 g hg))
  clear r3 k4 K3
  go_wp2_with fail
  refine (work_any _ F p z3 7 r4 (by omega) (by omega)).mono ?_
  rw [v1]
  rintro e w5 ⟨rfl, r5, k5⟩
  have K5 := K4.trans k5 (fun g hg => .inr (f1 g (by simp at hg)))
  clear r4 k5 K4
  go_wp2_with fail
  refine (used_any _ F p z3 7 r5 (by omega) (by omega)).mono ?_
  rw [v2]
  rintro e w6 ⟨rfl, rfl⟩
  go_wp2_with fail
  refine (pick_any _ F p z3 r5).mono ?_
  rw [v3, v4]
  rintro e w7 ⟨rfl, r7, k7⟩
  have r7 : CkRep w7 F p z4 := r7
  have K7 := K5.trans k7 (fun g hg => .inr (f1 g hg))
  clear r5 k7 K5
  go_wp2_with fail
  refine (hand_any _ F p z4 r7).mono ?_
  rw [v5]
  rintro e w8 ⟨rfl, rfl⟩
  go_wp2_with fail
  refine (touch_any _ F p z4 1 r7 (by decide)).mono ?_
  rintro e w9 ⟨rfl, r9, k9⟩
  have r9 : CkRep w9 F p z5 := r9
  have K9 := K7.trans k9 (fun g hg => .inr (f1 g hg))
  clear r7 k9 K7
  go_wp2_with fail
  refine (pick_any _ F p z5 r9).mono ?_
  rw [v6, v7]
  rintro e w10 ⟨rfl, r10, k10⟩
  have r10 : CkRep w10 F p z6 := r10
  have K10 := K9.trans k10 (fun g hg => .inr (f1 g hg))
  clear r9 k10 K9
  go_wp2_with fail
  refine (owner_any _ F p z6 2 r10).mono ?_
  rw [v8, v9]
  rintro e w11 ⟨rfl, rfl⟩
  go_wp2
  go_ret
  exact ⟨rfl, K10⟩
end Go.Proofs.Ytcikdffahnnbhaa
