/- The walk of small. -/
import Derived.Test.YtnnoekcnhdcodaaW8
import Derived.Deep.RegionWith
namespace Go.Proofs.Ytnnoekcnhdcodaa
open Go.RowKit

def m0 : Nat → Option E := fun _ => none
def m1 : Nat → Option E := mapM m0 17 3 false
def m2 : Nat → Option E := wlkM m1 17 false
def m3 : Nat → Option E := mapM m2 17 3 true
def m4 : Nat → Option E := mapM m3 31 4 true
def m5 : Nat → Option E := mapM m4 32 5 true
def m6 : Nat → Option E := unmM m5 32

set_option maxRecDepth 100000 in
set_option maxHeartbeats 1600000 in
theorem small_any (w : World) : Calls Try.prog 7 #[] w fun e w' => e = .returned (.bool true) ∧ Keeps [] w w' := by
  go_enter Try.func7, Try.ntmps7
  go_wp2_with fail
  refine (new_any _).mono ?_
  rintro e w1 ⟨F, p, rfl, r1, k1, f1⟩
  have r1 : TbRep w1 F p m0 := r1
  go_wp2_with fail
  refine (map_any _ F p m0 17 3 false r1 (by omega) (by omega) (by omega) (by omega)).mono ?_
  rintro e w2 ⟨F2, rfl, r2, k2, f2⟩
  rw [show mapN 17 3 = 0 from by kernel_rfl]
  have r2 : TbRep w2 F2 p m1 := r2
  have K2 := k1.trans k2 (fun g hg => .inr (f1 g hg))
  have f2 : ∀ g ∈ F2, w.heap.size ≤ g := fun g hg => by rcases f2 g hg with h | h; exact f1 g h; have := k1.size; omega
  clear r1 k1 f1 k2
  go_wp2_with fail
  refine (walk_any _ F2 p m1 17 true r2 (by omega) (by omega)).mono ?_
  rw [show wlkN m1 17 true = 0 from by kernel_rfl, show wlkB m1 17 true = false from by kernel_rfl]
  rintro e w3 ⟨rfl, r3, k3⟩
  have r3 : TbRep w3 F2 p m1 := by have e : wlkM m1 17 true = m1 := by rfl
                                   rwa [e] at r3
  have K3 := K2.trans k3 (fun g hg => .inr (f2 g hg))
  clear r2 k3 K2
  go_wp2_with fail
  refine (walk_any _ F2 p m1 17 false r3 (by omega) (by omega)).mono ?_
  rw [show wlkN m1 17 false = 3 from by kernel_rfl, show wlkB m1 17 false = true from by kernel_rfl]
  rintro e w4 ⟨rfl, r4, k4⟩
  have r4 : TbRep w4 F2 p m2 := r4
  have K4 := K3.trans k4 (fun g hg => .inr (f2 g hg))
  clear r3 k4 K3
  go_wp2_with fail
  refine (look_any2 _ F2 p m2 17 r4 (by omega) (by omega)).mono ?_
  rw [show lookX m2 17 = (17, ⟨3, false, true, false⟩) from by kernel_rfl, show (ent m2 17).isSome = true from by kernel_rfl]
  rintro e w5 ⟨rfl, r5, k5⟩
  have K5 := K4.trans k5 (by simp)
  clear r4 k5 K4
  have k6 : Keeps [] w5 (w5.alloc (.cells #[.int .i64 17, .int .i64 3, .bool false, .bool true, .bool false] 27)) := (Keeps.refl _ _).alloc _
  have r6 := r5.keep k6 (by simp)
  have b6 := Blk.new w5 27 #[.int .i64 17, .int .i64 3, .bool false, .bool true, .bool false]
  have n6 : w5.heap.size ∉ F2 := fun h => by have := r5.lt _ h; omega
  have n6' : w.heap.size ≤ w5.heap.size := K5.size
  have K6 := K5.trans k6 (by simp)
  clear r5 k6 K5
  obtain ⟨g, hg⟩ : ∃ g, g = w5.heap.size := ⟨_, rfl⟩
  rw [← hg] at b6 n6 n6'
  have HG := Lib.hid hg; clear hg
  go_wp2_with fail
  refine (map_any _ F2 p m2 17 3 true r6 (by omega) (by omega) (by omega) (by omega)).mono ?_
  rintro e w7 ⟨F7, rfl, r7, k7, f7⟩
  have r7 : TbRep w7 F7 p m3 := r7
  have b7 := b6.keep k7 n6
  have K7 := K6.trans k7 (fun g hg => .inr (f2 g hg))
  have n7 : g ∉ F7 := fun h => by rcases f7 g h with h1 | h1; exact n6 h1; exact absurd b6.lt (by omega)
  have f7 : ∀ g ∈ F7, w.heap.size ≤ g := fun g hg => by rcases f7 g hg with h | h; exact f2 g h; have := K6.size; omega
  clear r6 k7 b6 K6 f2 n6
  go_wp2_with fail
  refine (map_any _ F7 p m3 31 4 true r7 (by omega) (by omega) (by omega) (by omega)).mono ?_
  rintro e w8 ⟨F8, rfl, r8, k8, f8⟩
  have r8 : TbRep w8 F8 p m4 := r8
  have b8 := b7.keep k8 n7
  have K8 := K7.trans k8 (fun g hg => .inr (f7 g hg))
  have n8 : g ∉ F8 := fun h => by rcases f8 g h with h1 | h1; exact n7 h1; exact absurd b7.lt (by omega)
  have f8 : ∀ g ∈ F8, w.heap.size ≤ g := fun g hg => by rcases f8 g hg with h | h; exact f7 g h; have := K7.size; omega
  clear r7 k8 b7 K7 f7 n7
  go_wp2_with fail
  refine (map_any _ F8 p m4 32 5 true r8 (by omega) (by omega) (by omega) (by omega)).mono ?_
  rintro e w9 ⟨F9, rfl, r9, k9, f9⟩
  have r9 : TbRep w9 F9 p m5 := r9
  have b9 := b8.keep k9 n8
  have K9 := K8.trans k9 (fun g hg => .inr (f8 g hg))
  have n9 : g ∉ F9 := fun h => by rcases f9 g h with h1 | h1; exact n8 h1; exact absurd b8.lt (by omega)
  have f9 : ∀ g ∈ F9, w.heap.size ≤ g := fun g hg => by rcases f9 g hg with h | h; exact f8 g h; have := K8.size; omega
  clear r8 k9 b8 K8 f8 n8
  go_wp2_with fail
  refine (levels_any _ F9 p m5 r9).mono ?_
  rw [show levs m5 16 = 2 from by kernel_rfl]
  rintro e wa ⟨rfl, rfl⟩
  go_wp2_with fail
  refine (unmap_any _ F9 p m5 32 r9 (by omega) (by omega)).mono ?_
  rw [show (ent m5 32).isSome = true from by kernel_rfl]
  rintro e wb ⟨rfl, rb, kb⟩
  have rb : TbRep wb F9 p m6 := rb
  have bb := b9.keep kb n9
  have Kb := K9.trans kb (fun g hg => .inr (f9 g hg))
  clear r9 kb b9 K9
  go_wp2_with fail
  refine (unmap_any _ F9 p m6 32 rb (by omega) (by omega)).mono ?_
  rw [show (ent m6 32).isSome = false from by kernel_rfl]
  rintro e wc ⟨rfl, rc, kc⟩
  have rc : TbRep wc F9 p m6 := by have e : unmM m6 32 = m6 := by rfl
                                   rwa [e] at rc
  have bc := bb.keep kc n9
  have Kc := Kb.trans kc (fun g hg => .inr (f9 g hg))
  clear rb kc bb Kb
  rw [HG.out] at bc
  have z3 : wc.cell? ⟨w5.heap.size, 3, none⟩ = some (.bool true) := bc.cell 3
  have z4 : wc.cell? ⟨w5.heap.size, 4, none⟩ = some (.bool false) := bc.cell 4
  go_wp2_with fail
  refine (levels_any _ F9 p m6 rc).mono ?_
  rw [show levs m6 16 = 1 from by kernel_rfl]
  rintro e wa ⟨rfl, rfl⟩
  go_wp2
  go_ret
  exact ⟨rfl, Kc⟩
end Go.Proofs.Ytnnoekcnhdcodaa
