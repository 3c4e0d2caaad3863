/- small. -/
import Derived.Test.YtipmhhhhfnpdgaaR5
namespace Go.Proofs.Ytipmhhhhfnpdgaa
open Go.RowKit

def bA : ByteArray := ⟨#[97]⟩
def bB : ByteArray := ⟨#[98]⟩
def bC : ByteArray := ⟨#[99]⟩
theorem bA_toList : bA.toList = [97] := by rw [ByteArray.toList_eq]; rfl
theorem bB_toList : bB.toList = [98] := by rw [ByteArray.toList_eq]; rfl
theorem m1 : Lk.send ⟨[], false⟩ 0 bA = (0, ⟨[(1, bA)], false⟩) := by simp [Lk.send]
theorem m2 : Lk.send ⟨[(1, bA)], false⟩ 1 bB = (0, ⟨[(1, bA), (0, bB)], false⟩) := by simp [Lk.send]
theorem m3 : Lk.deliver ⟨[(1, bA), (0, bB)], false⟩ 1 = ((0, bB), 0, ⟨[(1, bA)], false⟩) := by simp [Lk.deliver, hasI]
theorem m4 : Lk.deliver ⟨[(1, bA)], false⟩ 0 = ((1, bA), 0, ⟨[], false⟩) := by simp [Lk.deliver, hasI]
theorem m5 : Lk.deliver ⟨[], false⟩ 0 = ((0, E0), 4, ⟨[], false⟩) := by simp [Lk.deliver, hasI]
theorem m6 : Lk.send ⟨[], true⟩ 0 bC = (28, ⟨[], true⟩) := by simp [Lk.send]

set_option maxRecDepth 100000 in
set_option maxHeartbeats 2000000 in
theorem small_any (w : World) : Calls Try.prog 7 #[] w fun e w' => e = .returned (.bool true) ∧ Keeps [] w w' := by
  go_enter Try.func7, Try.ntmps7
  go_wp2_with fail
  refine (new_any _).mono ?_
  rintro e w1 ⟨F, p, rfl, r1, k1, hF⟩
  go_wp2_with fail
  refine (new_any _).mono ?_
  rintro e w2 ⟨G, q, rfl, r2, k2, hG⟩
  have rl := r1.keep k2 (by simp)
  have K2 : Keeps [] w w2 := k1.trans k2 (by simp)
  have hG' : ∀ g ∈ G, w.heap.size ≤ g := fun g hg => Nat.le_trans k1.size (hG g hg)
  have dFG : ∀ g ∈ G, g ∉ F := fun g hg hf => by have := r1.lt g hf; have := hG g hg; omega
  clear r1 k1 k2 hG
  go_wp2_with fail
  refine (send_any _ F p _ 0 bA rl).mono ?_
  rw [m1]
  rintro e w3 ⟨rfl, F1, rl1, k3, n3⟩
  have rm := r2.keep k3 dFG
  have hF1 : ∀ g ∈ F1, w.heap.size ≤ g := fun g hg => (n3 g hg).elim (hF g) (fun h => Nat.le_trans K2.size h)
  have dFG1 : ∀ g ∈ G, g ∉ F1 := fun g hg hf => (n3 g hf).elim (dFG g hg) (fun h => by have := r2.lt g hg; omega)
  have K3 : Keeps [] w w3 := K2.trans k3 (fun g hg => .inr (hF g hg))
  clear rl r2 K2 k3 n3 hF dFG
  go_wp2_with fail
  refine (send_any _ F1 p _ 1 bB rl1).mono ?_
  rw [m2]
  rintro e w4 ⟨rfl, F2, rl2, k4, n4⟩
  have rm2 := rm.keep k4 dFG1
  have hF2 : ∀ g ∈ F2, w.heap.size ≤ g := fun g hg => (n4 g hg).elim (hF1 g) (fun h => Nat.le_trans K3.size h)
  have dFG2 : ∀ g ∈ G, g ∉ F2 := fun g hg hf => (n4 g hf).elim (dFG1 g hg) (fun h => by have := rm.lt g hg; omega)
  have K4 : Keeps [] w w4 := K3.trans k4 (fun g hg => .inr (hF1 g hg))
  clear rl1 rm K3 k4 n4 hF1 dFG1
  go_wp2_with fail
  refine (deliver_any _ F2 p _ 1 rl2).mono ?_
  rw [m3]
  rintro e w5 ⟨rfl, rl3, k5⟩
  have rm3 := rm2.keep k5 dFG2
  have K5 : Keeps [] w w5 := K4.trans k5 (fun g hg => .inr (hF2 g hg))
  clear rl2 rm2 K4 k5
  -- the packet x
  have x5 : Blk (w5.alloc (.cells #[.int .i64 0, .string bB] 31)) w5.heap.size 31 #[.int .i64 0, .string bB] := Blk.new _ _ _
  have xF : w5.heap.size ∉ F2 := fun h => by have := rl3.lt _ h; omega
  have xG : w5.heap.size ∉ G := fun h => by have := rm3.lt _ h; omega
  have rl3' := rl3.keep ((Keeps.refl [] w5).alloc (.cells #[.int .i64 0, .string bB] 31)) (by simp)
  have rm3' := rm3.keep ((Keeps.refl [] w5).alloc (.cells #[.int .i64 0, .string bB] 31)) (by simp)
  have K5' := K5.alloc (.cells #[.int .i64 0, .string bB] 31)
  clear rl3 rm3 K5
  go_wp2_with fail
  refine (deliver_any _ F2 p _ 0 rl3').mono ?_
  rw [m4]
  rintro e w6 ⟨rfl, rl4, k6⟩
  have rm4 := rm3'.keep k6 dFG2
  have x6 := x5.keep k6 xF
  have K6 : Keeps [] w w6 := K5'.trans k6 (fun g hg => .inr (hF2 g hg))
  generalize w5.heap.size = bx at *
  clear rl3' rm3' x5 K5' k6
  have hbx := x6.lt
  have y6 : Blk (w6.alloc (.cells #[.int .i64 1, .string bA] 31)) w6.heap.size 31 #[.int .i64 1, .string bA] := Blk.new _ _ _
  have x6' := x6.alloc (.cells #[.int .i64 1, .string bA] 31)
  have yF : w6.heap.size ∉ F2 := fun h => by have := rl4.lt _ h; omega
  have yG : w6.heap.size ∉ G := fun h => by have := rm4.lt _ h; omega
  have rl4' := rl4.keep ((Keeps.refl [] w6).alloc (.cells #[.int .i64 1, .string bA] 31)) (by simp)
  have rm4' := rm4.keep ((Keeps.refl [] w6).alloc (.cells #[.int .i64 1, .string bA] 31)) (by simp)
  have K6' := K6.alloc (.cells #[.int .i64 1, .string bA] 31)
  clear rl4 rm4 x6 K6
  go_wp2_with fail
  refine (deliver_any _ F2 p _ 0 rl4').mono ?_
  rw [m5]
  rintro e w7 ⟨rfl, rl5, k7⟩
  have rm5 := rm4'.keep k7 dFG2
  have x7 := x6'.keep k7 xF
  have y7 := y6.keep k7 yF
  have K7 : Keeps [] w w7 := K6'.trans k7 (fun g hg => .inr (hF2 g hg))
  generalize w6.heap.size = bY at *
  clear rl4' rm4' x6' y6 K6' k7 rl5 xF yF hbx
  have x8 := x7.alloc (.cells #[.int .i64 0, .string E0] 31)
  have y8 := y7.alloc (.cells #[.int .i64 0, .string E0] 31)
  have rm8 := rm5.keep ((Keeps.refl [] w7).alloc (.cells #[.int .i64 0, .string E0] 31)) (by simp)
  have K8 := K7.alloc (.cells #[.int .i64 0, .string E0] 31)
  clear x7 y7 rm5 K7
  go_wp2_with fail
  refine (send_any _ G q _ 0 bA rm8).mono ?_
  rw [m1]
  rintro e w9 ⟨rfl, G1, rm9, k9, n9⟩
  have x9 := x8.keep k9 xG
  have y9 := y8.keep k9 yG
  have xG1 : bx ∉ G1 := fun h => (n9 _ h).elim xG (fun h => by have := x8.lt; omega)
  have yG1 : bY ∉ G1 := fun h => (n9 _ h).elim yG (fun h => by have := y8.lt; omega)
  have hG1 : ∀ g ∈ G1, w.heap.size ≤ g := fun g hg => (n9 g hg).elim (hG' g) (fun h => Nat.le_trans K8.size h)
  have K9 : Keeps [] w w9 := K8.trans k9 (fun g hg => .inr (hG' g hg))
  clear x8 y8 rm8 K8 k9 n9 xG yG hG'
  go_wp2_with fail
  refine (cut_any _ G1 q _ rm9).mono ?_
  rintro e w10 ⟨rfl, G2, rm10, k10, n10⟩
  have x10 := x9.keep k10 xG1
  have y10 := y9.keep k10 yG1
  have xG2 : bx ∉ G2 := fun h => xG1 (n10 _ h)
  have yG2 : bY ∉ G2 := fun h => yG1 (n10 _ h)
  have hG2 : ∀ g ∈ G2, w.heap.size ≤ g := fun g hg => hG1 g (n10 g hg)
  have K10 : Keeps [] w w10 := K9.trans k10 (fun g hg => .inr (hG1 g hg))
  clear x9 y9 rm9 K9 k10 n10 xG1 yG1 hG1
  go_wp2_with fail
  refine (send_any _ G2 q _ 0 bC rm10).mono ?_
  rw [m6]
  rintro e w11 ⟨rfl, G3, rm11, k11, n11⟩
  have x11 := x10.keep k11 xG2
  have y11 := y10.keep k11 yG2
  have xG3 : bx ∉ G3 := fun h => (n11 _ h).elim xG2 (fun h => by have := x10.lt; omega)
  have yG3 : bY ∉ G3 := fun h => (n11 _ h).elim yG2 (fun h => by have := y10.lt; omega)
  have hG3 : ∀ g ∈ G3, w.heap.size ≤ g := fun g hg => (n11 g hg).elim (hG2 g) (fun h => Nat.le_trans K10.size h)
  have K11 : Keeps [] w w11 := K10.trans k11 (fun g hg => .inr (hG2 g hg))
  clear x10 y10 rm10 K10 k11 n11 xG2 yG2 hG2
  go_wp2_with fail
  refine (join_any _ G3 q _ rm11).mono ?_
  rintro e w12 ⟨rfl, rm12, k12⟩
  have x12 := x11.keep k12 xG3
  have y12 := y11.keep k12 yG3
  have K12 : Keeps [] w w12 := K11.trans k12 (fun g hg => .inr (hG3 g hg))
  have cx0 : w12.cell? ⟨bx, 0, none⟩ = some (.int .i64 0) := x12.cell 0
  have cx1 : w12.cell? ⟨bx, 1, none⟩ = some (.string bB) := x12.cell 1
  have cy0 : w12.cell? ⟨bY, 0, none⟩ = some (.int .i64 1) := y12.cell 0
  have cy1 : w12.cell? ⟨bY, 1, none⟩ = some (.string bA) := y12.cell 1
  have ta := bA_toList
  have tb := bB_toList
  clear x11 y11 x12 y12 rm11 K11 k12
  go_wp2_with fail
  refine (count_any _ G3 q _ rm12).mono ?_
  rintro e w13 ⟨rfl, rfl⟩
  go_wp2_with fail
  refine (iscut_any _ G3 q _ rm12).mono ?_
  rintro e w13 ⟨rfl, rfl⟩
  go_wp2
  go_ret
  exact ⟨rfl, K12⟩
end Go.Proofs.Ytipmhhhhfnpdgaa
