/- small. -/
import Derived.Test.YtkfcoemdpcjhfaaW9
namespace Go.Proofs.Ytkfcoemdpcjhfaa
open Go.RowKit

def z0 : Tl := ⟨2, []⟩
def z1 : Tl := z0.fill ⟨1, 5, 9, false⟩
def z2 : Tl := z1.look 1 5 false
def z3 : Tl := z2.look 1 5 true
def z4 : Tl := z3.look 2 5 false
def z5 : Tl := z4.fill ⟨1, 6, 8, true⟩
def z6 : Tl := z5.look 1 5 false
def z7 : Tl := z6.fill ⟨1, 7, 7, true⟩
theorem z_v : z1.lookR 1 5 false = (9, true) ∧ (z2.lookR 1 5 true).2 = false ∧ (z3.lookR 2 5 false).2 = false ∧ z5.lookR 1 5 false = (9, true) ∧ z7.L = [⟨1, 7, 7, true⟩, ⟨1, 5, 9, false⟩] := by
  refine ⟨by decide, by decide, by decide, by decide, by decide⟩
theorem z_n : z1.n = 2 ∧ z2.n = 2 ∧ z3.n = 2 ∧ z4.n = 2 ∧ z5.n = 2 ∧ z6.n = 2 ∧ z7.n = 2 := by
  refine ⟨by decide, by decide, by decide, by decide, by decide, by decide, by decide⟩
/-- The cache and all that was made: nothing of the world before turned. -/
structure Own1 (w wr : World) (F : List Nat) (p : Nat) (s : Tl) : Prop where
  r : TlRep 49 wr F p s
  k : Keeps [] w wr
  f : ∀ g ∈ F, w.heap.size ≤ g
theorem Own1.next {w wr w' : World} {F : List Nat} {p : Nat} {s t : Tl} (h : Own1 w wr F p s) (n : Next 49 wr w' F p t) : ∃ F', Own1 w w' F' p t := by
  obtain ⟨F', r, k, f⟩ := n
  exact ⟨F', r, h.k.trans k (fun g hg => .inr (h.f g hg)), fun g hg => (f g hg).elim (h.f g) (fun x => Nat.le_trans h.k.size x)⟩

set_option maxRecDepth 100000 in
set_option maxHeartbeats 3200000 in
theorem small_any (w : World) : Calls Try.prog 7 #[] w fun e w' => e = .returned (.bool true) ∧ Keeps [] w w' := by
  obtain ⟨v1, v2, v3, v4, v5⟩ := z_v
  obtain ⟨n1, n2, n3, n4, n5, n6, n7⟩ := z_n
  go_enter Try.func7, Try.ntmps7
  go_wp2_with fail
  refine (new_any _ 2 (by omega) (by omega)).mono ?_
  rintro e w1 ⟨F, p, rfl, r1, k1, f1⟩
  have O1 : Own1 w w1 F p z0 := ⟨r1, k1, f1⟩
  clear r1 k1 f1
  go_wp2_with fail
  refine (fill_any _ F p z0 ⟨1, 5, 9, false⟩ (by decide) O1.r).mono ?_
  rintro e w2 ⟨rfl, x2⟩
  obtain ⟨F2, O2⟩ := O1.next (t := z1) x2
  clear x2 O1
  go_wp2_with fail
  refine (look_any _ F2 p z1 1 5 false (by omega) O2.r).mono ?_
  rw [v1]
  rintro e w3 ⟨rfl, x3⟩
  obtain ⟨F3, O3⟩ := O2.next (t := z2) x3
  clear x3 O2
  go_wp2_with fail
  refine (look_any _ F3 p z2 1 5 true (by omega) O3.r).mono ?_
  rw [v2]
  rintro e w4 ⟨rfl, x4⟩
  obtain ⟨F4, O4⟩ := O3.next (t := z3) x4
  clear x4 O3
  go_wp2_with fail
  refine (look_any _ F4 p z3 2 5 false (by omega) O4.r).mono ?_
  rw [v3]
  rintro e w5 ⟨rfl, x5⟩
  obtain ⟨F5, O5⟩ := O4.next (t := z4) x5
  clear x5 O4
  go_wp2_with fail
  refine (fill_any _ F5 p z4 ⟨1, 6, 8, true⟩ (by omega) O5.r).mono ?_
  rintro e w6 ⟨rfl, x6⟩
  obtain ⟨F6, O6⟩ := O5.next (t := z5) x6
  clear x6 O5
  go_wp2_with fail
  refine (look_any _ F6 p z5 1 5 false (by omega) O6.r).mono ?_
  rw [v4]
  rintro e w7 ⟨rfl, x7⟩
  obtain ⟨F7, O7⟩ := O6.next (t := z6) x7
  clear x7 O6
  go_wp2_with fail
  refine (fill_any _ F7 p z6 ⟨1, 7, 7, true⟩ (by omega) O7.r).mono ?_
  rintro e w8 ⟨rfl, x8⟩
  obtain ⟨F8, O8⟩ := O7.next (t := z7) x8
  clear x8 O7
  go_wp2_with fail
  refine (list_any _ F8 p z7 (by omega) O8.r).mono ?_
  rintro e w9 ⟨v, rfl, o9, k9, f9⟩
  have K9 := O8.k.trans k9 (by simp)
  rw [v5] at o9
  have kA : Keeps [] w9 (w9.alloc (.cells #[.int .i64 1, .int .i64 7, .int .i64 7, .bool true, .int .i64 1, .int .i64 5, .int .i64 9, .bool false] 34)) := (Keeps.refl _ _).alloc _
  have oA := own_keep o9 kA (by simp)
  have oB : (w9.alloc (.cells #[.int .i64 1, .int .i64 7, .int .i64 7, .bool true, .int .i64 1, .int .i64 5, .int .i64 9, .bool false] 34)).ownsRow 0 34 4 (.slice (some ⟨w9.heap.size, 0, none⟩) 2 2) 2 (es [⟨1, 7, 7, true⟩, ⟨1, 5, 9, false⟩]) :=
    own_of_blk (Blk.new _ _ _) (by omega) (by unfold maxLen; omega) rfl rfl
  have hs := same_any _ _ _ [⟨1, 7, 7, true⟩, ⟨1, 5, 9, false⟩] oA oB
  have HS := Lib.hid hs
  clear hs oA oB o9
  go_wp2_with fail
  refine HS.out.mono ?_
  rintro e w10 ⟨rfl, k10⟩
  have K10 := (K9.trans kA (by simp)).trans k10 (by simp)
  go_wp2
  go_ret
  exact ⟨rfl, K10⟩
end Go.Proofs.Ytkfcoemdpcjhfaa
