/- small. -/
import Derived.Test.YtiffjaociblboaaW20
namespace Go.Proofs.Ytiffjaociblboaa
open Go.RowKit

theorem vds1 : Vds [xA] := by intro x hx; simp at hx; subst hx; exact vld_iff.1 (by kernel_rfl)
def lX : Ar := ⟨10, 2, ⟨#[97]⟩, 2, false, true⟩
def hX : Ar := ⟨13, 2, ⟨#[97]⟩, 5, false, true⟩
theorem unmX : unmA [xA] 12 1 = [lX, hX] := by rfl
theorem atL_new (w : World) (x : Ar) : AtL (w.alloc (.cells (acs x).toArray 24)) (some ⟨w.heap.size, 0, none⟩) [x] := by
  have b := Blk.new w 24 (acs x).toArray
  refine ⟨fun _ => ⟨w.heap.size, 0, rfl, b.lt, fun k hk => ?_⟩, by simp⟩
  obtain rfl : k = 0 := by simpa using hk
  exact ⟨b.cell 0, b.cell 1, b.cell 2, b.cell 3, b.cell 4, b.cell 5⟩
theorem plain_any (w : World) (p : Addr) : Calls Try.prog 26 #[.iface 42 (.pointer (some p))] w fun e w' => e = .returned (.iface 77 (.agg #[.iface 42 (.pointer (some p))])) ∧ w' = w := by
  go_enter Try.func26, Try.ntmps26
  go_wp2_with fail
  go_ret
  exact ⟨rfl, rfl⟩
set_option maxRecDepth 1000000 in
set_option maxHeartbeats 6400000 in
theorem small_any (w : World) : Calls Try.prog 6 #[] w fun e w' => e = .returned (.bool true) ∧ Keeps [] w w' := by
  obtain ⟨lb, hlb⟩ : ∃ lb, w.heap.size = lb := ⟨_, rfl⟩
  have A1 : Hid (∀ w1, Keeps [] (w.alloc (.cells (acs xA).toArray 24)) w1 → AtL w1 (some ⟨lb, 0, none⟩) [xA]) := Lib.hid (fun w1 k => by rw [← hlb]; exact (atL_new w xA).keep k)
  go_enter Try.func6, Try.ntmps6
  go_wp2_with fail
  clear hlb
  obtain ⟨w1, hw1⟩ : ∃ w1, w.alloc (.cells #[.int .i64 10, .int .i64 5, .string ⟨#[97]⟩, .int .i64 2, .bool false, .bool true] 24) = w1 := ⟨_, rfl⟩
  rw [hw1]
  have K1 : Hid (Keeps [] w w1) := Lib.hid (by rw [← hw1]; exact (Keeps.refl [] w).alloc _)
  have A2 : Hid (∀ W, Keeps [] w1 W → AtL W (some ⟨lb, 0, none⟩) [xA]) := Lib.hid (fun W k => A1.out W (by rw [← hw1] at k; exact k))
  clear hw1 A1
  have c1 := find_any w1 _ [xA] 1 14 (A2.out w1 (Keeps.refl _ _)) vds1
  rw [show fndV [xA] 14 = xA by kernel_rfl, show (fnd [xA] 14).isSome = true by kernel_rfl] at c1
  unfold Ar.v xA at c1
  refine c1.mono ?_
  clear c1
  rintro e w2 ⟨rfl, k2⟩
  have K2 : Hid (Keeps [] w1 w2) := Lib.hid k2
  clear k2
  -- the second Find
  go_wp2_with fail
  obtain ⟨ab, hab⟩ : ∃ ab, w2.heap.size = ab := ⟨_, rfl⟩
  obtain ⟨w3, hw3⟩ : ∃ w3, w2.alloc (.cells #[.int .i64 10, .int .i64 5, .string ⟨#[97]⟩, .int .i64 2, .bool false, .bool true] 24) = w3 := ⟨_, rfl⟩
  rw [hw3, hab]
  have bA : Hid (Blk w3 ab 24 (acs xA).toArray) := Lib.hid (by rw [← hw3, ← hab]; exact Blk.new w2 24 (acs xA).toArray)
  have K3 : Hid (Keeps [] w1 w3) := Lib.hid (by rw [← hw3]; exact K2.out.alloc _)
  clear hw3 hab K2
  have c3 := find_any w3 _ [xA] 1 15 (A2.out w3 K3.out) vds1
  rw [show fndV [xA] 15 = zA by kernel_rfl, show (fnd [xA] 15).isSome = false by kernel_rfl] at c3
  unfold Ar.v zA at c3
  refine c3.mono ?_
  clear c3
  rintro e w4 ⟨rfl, k4⟩
  have K4 : Hid (Keeps [] w3 w4) := Lib.hid k4
  clear k4
  -- Unmap
  go_wp2_with fail
  obtain ⟨zb, hzb⟩ : ∃ zb, w4.heap.size = zb := ⟨_, rfl⟩
  obtain ⟨w5, hw5⟩ : ∃ w5, w4.alloc (.cells #[.int .i64 0, .int .i64 0, .string ⟨#[]⟩, .int .i64 0, .bool false, .bool false] 24) = w5 := ⟨_, rfl⟩
  rw [hw5, hzb]
  have K5 : Hid (Keeps [] w3 w5) := Lib.hid (by rw [← hw5]; exact K4.out.alloc _)
  clear hw5 hzb K4
  refine (unmap_any w5 _ [xA] 1 12 1 (A2.out w5 (K3.out.trans K5.out (by simp))) vds1).mono ?_
  intro e w6 hu
  rcases hu with ⟨-, v6, rfl, o6⟩ | ⟨h, -, -⟩
  rotate_left
  · exact absurd (show unmE [xA] 12 1 = 0 by kernel_rfl) h
  rw [unmX] at o6
  obtain ⟨B6, c6, rfl⟩ := o6.shape
  have O6 : Hid (OwnL w5 w6 (.slice B6 2 c6) [lX, hX]) := Lib.hid o6
  have K6 : Hid (Keeps [] w3 w6) := Lib.hid (K5.out.trans o6.2.1 (by simp))
  clear o6 K5
  -- Map
  go_wp2_with fail
  refine (map_any w6 _ [xA] 1 ⟨14, 1, ⟨#[98]⟩, 0, false, false⟩ (A2.out w6 (K3.out.trans K6.out (by simp))) vds1).mono ?_
  intro e w7 hu
  have e5 : mapE ⟨14, 1, ⟨#[98]⟩, 0, false, false⟩ [xA] = 5 := by kernel_rfl
  rcases hu with ⟨h, -⟩ | ⟨-, rfl, k7⟩
  · rw [e5] at h; cases h
  rw [e5]
  have K7 : Hid (Keeps [] w6 w7) := Lib.hid k7
  clear k7 e5
  -- Free
  go_wp2_with fail
  have cf := free_any w7 _ [xA] 1 3 (A2.out w7 ((K3.out.trans K6.out (by simp)).trans K7.out (by simp))) vds1
  rw [show freeV [xA] 3 = (64, true) by kernel_rfl] at cf
  refine cf.mono ?_
  clear cf
  rintro e w8 ⟨rfl, k8⟩
  have K8 : Hid (Keeps [] w6 w8) := Lib.hid (K7.out.trans k8 (by simp))
  clear k8 K7
  -- New
  go_wp2_with fail
  refine (new_any w8).mono ?_
  rintro e w9 ⟨fb, m1, m2, m3, rfl, b9, mo9, k9, hm2, hfb⟩
  have B9 := Lib.hid b9
  have M9 := Lib.hid mo9
  have K9 : Hid (Keeps [] w6 w9) := Lib.hid (K8.out.trans k9 (by simp))
  have HM2 : Hid (w6.heap.size ≤ m2) := Lib.hid (Nat.le_trans K8.out.size hm2)
  clear b9 mo9 k9 hm2 hfb K8
  -- SetByte
  go_wp2_with fail
  refine (setByte_any w9 fb m1 m2 m3 ⟨#[97]⟩ B9.out M9.out (by decide)).mono ?_
  rintro e w10 ⟨rfl, m4, hm4, mo2, mo4, k10⟩
  have MO2 := Lib.hid mo2
  have MO4 := Lib.hid mo4
  have K10 : Hid (Keeps [] w6 w10) := Lib.hid (K9.out.trans k10 (fun g hg => .inr (by simp at hg; subst hg; exact HM2.out)))
  have B10 : Hid (Blk w10 fb 68 (wcs m1 m2 m3)) := Lib.hid (B9.out.keep k10 (by have := M9.out.ne_ B9.out; simp; exact fun h => this h.symm))
  clear mo2 mo4 k10 hm4 B9 M9 K9 HM2
  -- Plain
  go_wp2_with fail
  refine (plain_any w10 _).mono ?_
  rintro e w11 ⟨rfl, rfl⟩
  have hni : ∀ w v, (binOp .eql 46 (.iface 77 v) .nilIface).run Try.prog w = .ok (.bool false) w := fun _ _ => by kernel_rfl
  go_upto_region 14 with fail
  clear hni
  have hme : ∀ (w : World) (v : Value), (method 208 77 (.agg #[v]) "Load").run Try.prog w = .ok (57, .agg #[v]) w := fun _ _ => by kernel_rfl
  have K111 : Hid (Keeps [] w1 w11) := Lib.hid ((K3.out.trans K6.out (by simp)).trans K10.out (by simp))
  go_wp2_with fail
  refine (load_yes w11 fb m1 m2 m3 m4 1 _ _ B10.out MO2.out MO4.out (A2.out w11 K111.out) rfl).mono ?_
  rintro e w12 ⟨rfl, k12⟩
  have K12 : Hid (Keeps [] w11 w12) := Lib.hid k12
  clear k12
  go_wp2_with fail
  refine (load_no w12 _ 1 _ _ (A2.out w12 (K111.out.trans K12.out (by simp))) rfl).mono ?_
  rintro e w13 ⟨rfl, k13⟩
  have K13 : Hid (Keeps [] w6 w13) := Lib.hid ((K10.out.trans K12.out (by simp)).trans k13 (by simp))
  clear k13 K12 hme MO2 MO4 B10
  obtain ⟨o6, -, -⟩ : w13.ownsRow 0 24 6 (.slice B6 2 c6) 2 (rw acs [lX, hX]) ∧ True ∧ True := ⟨own_keep O6.out.1 K13.out (by simp), trivial, trivial⟩
  have at6 : AtL w13 B6 [lX, hX] := AtL.of_own o6 (by simp)
  obtain ⟨mb, off, rfl, hmb, hc⟩ := at6.at_ (by simp)
  obtain ⟨d0, d1, d2, d3, d4, d5⟩ := hc 0 (by simp)
  obtain ⟨e0, e1, e2, e3, e4, e5⟩ := hc 1 (by simp)
  simp only [List.getElem_cons_zero, List.getElem_cons_succ, Nat.zero_mul, Nat.one_mul, Nat.add_zero] at d0 d1 d2 d3 d4 d5 e0 e1 e2 e3 e4 e5
  have AT6 := Lib.hid at6
  clear o6 at6 hc O6
  unfold lX at d0 d1 d2 d3 d4 d5
  unfold hX at e0 e1 e2 e3 e4 e5
  go_upto_region 17 with fail
  have ca : w13.cell? ⟨ab, 0, none⟩ = some (.int .i64 10) := (bA.out.keep (K6.out.trans K13.out (by simp)) (by simp)).cell 0
  have c8 := Valid_any w13 _ [xA] 1 (A2.out w13 ((K3.out.trans K6.out (by simp)).trans K13.out (by simp)))
  rw [show Vl [xA] = true by kernel_rfl] at c8
  have C8 := Lib.hid c8
  have K113 : Hid (Keeps [] w w13) := Lib.hid (K1.out.trans ((K3.out.trans K6.out (by simp)).trans K13.out (by simp)) (by simp))
  clear d0 d1 d2 d3 d4 d5 e0 e1 e2 e3 e4 e5 c8 K1 A2 bA K3 K6 K10 K111 K13
  go_wp2_with fail
  refine C8.out.mono ?_
  rintro e w14 ⟨rfl, k14⟩
  have c9 := Valid_any w14 _ [lX, hX] c6 (AT6.out.keep k14)
  rw [show Vl [lX, hX] = true by kernel_rfl] at c9
  have K14 : Hid (Keeps [] w w14) := Lib.hid (K113.out.trans k14 (by simp))
  have C9 := Lib.hid c9
  clear c9 k14 C8 K113
  go_wp2_with fail
  refine C9.out.mono ?_
  rintro e w15 ⟨rfl, k15⟩
  have K15 : Hid (Keeps [] w w15) := Lib.hid (K14.out.trans k15 (by simp))
  clear k15
  go_wp2_with fail
  go_ret
  exact ⟨rfl, K15.out⟩
end Go.Proofs.Ytiffjaociblboaa
