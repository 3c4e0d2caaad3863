/- The walk of small. -/
import Derived.Test.YtfhnlkbmkfjpnaaW5
namespace Go.Proofs.Ytfhnlkbmkfjpnaa
open Go.RowKit

theorem emp_pg (n : Int) : emp (pg n) = false := emp_size (pg_size n)
theorem findIdx_emp_cons (x : ByteArray) (L : List ByteArray) : first (x :: L) = if emp x then 0 else first L + 1 := by
  rw [first_eq, first_eq, List.findIdx_cons]
  cases emp x <;> rfl
theorem first_nil : first [] = 0 := rfl
theorem cnt_cons (x : ByteArray) (L : List ByteArray) : cnt (x :: L) = cnt L + if emp x then 0 else 1 := by
  unfold cnt
  rw [List.countP_cons]
  cases emp x <;> rfl
theorem cnt_nil : cnt [] = 0 := rfl
def s0 : Sw := ⟨[E0, E0], 0, 0⟩
def s1 : Sw := ⟨[pg 1, E0], 0, 0⟩
def s2 : Sw := ⟨[pg 1, pg 2], 0, 0⟩
def s3 : Sw := ⟨[E0, pg 2], 0, 0⟩
def s4 : Sw := ⟨[pg 2, pg 2], 0, 0⟩
def s5 : Sw := ⟨[pg 2, pg 2], 3, 0⟩
def s6 : Sw := ⟨[pg 2, pg 2], 0, 3⟩
theorem e1 : s0.put (pg 1) = (0, true, s1) := by simp [Sw.put, s0, s1, cnt_cons, cnt_nil, findIdx_emp_cons, emp_E0, pg_size]
theorem e2 : s1.put (pg 2) = (1, true, s2) := by simp [Sw.put, s1, s2, cnt_cons, cnt_nil, findIdx_emp_cons, emp_E0, emp_pg, pg_size]
theorem e3 : s2.put (pg 1) = (-1, false, s2) := by simp [Sw.put, s2, cnt_cons, cnt_nil, emp_pg]
theorem e4 : s2.free 0 = s3 := by simp [Sw.free, s2, s3, hasB, emp_pg]
theorem e5 : s3.put (pg 2) = (0, true, s4) := by simp [Sw.put, s3, s4, cnt_cons, cnt_nil, findIdx_emp_cons, emp_E0, emp_pg, pg_size]
theorem e6 : s4.get 0 = (pg 2, 0, s4) := by simp [Sw.get, s4, hasB, emp_pg]
theorem e7 : s4.fail 3 = s5 := rfl
theorem e8 : s5.get 1 = (pg 2, 0, s6) := by simp [Sw.get, s5, s6, hasB, emp_pg]

set_option maxRecDepth 100000 in
set_option maxHeartbeats 1000000 in
theorem small_any (w : World) : Calls Try.prog 7 #[] w fun e w' => e = .returned (.bool true) ∧ Keeps [] w w' := by
  go_enter Try.func7, Try.ntmps7
  go_wp2_with fail
  refine (new_any _ 2).mono ?_
  rintro e wa ⟨F, p, rfl, ra, ka, fa⟩
  have hF : ∀ g ∈ F, w.heap.size ≤ g := fa
  have r0 : SwRep wa F p s0 := ra
  clear ra fa
  go_wp2_with fail
  refine (page_any _ 1 (by omega) (by omega)).mono ?_
  rintro e w1 ⟨rfl, k1⟩
  go_wp2_with fail
  refine (put_any _ F p s0 _ (r0.keep k1 (by simp)) (by simp [s0])).mono ?_
  rw [e1]
  rintro e w2 ⟨rfl, r2, k2⟩
  have K2 : Keeps [] w w2 := (ka.trans k1 (by simp)).trans k2 (fun g hg => .inr (hF g hg))
  clear r0 k1 k2 ka
  go_wp2_with fail
  refine (page_any _ 2 (by omega) (by omega)).mono ?_
  rintro e w3 ⟨rfl, k1⟩
  go_wp2_with fail
  refine (put_any _ F p s1 _ (r2.keep k1 (by simp)) (by simp [s1])).mono ?_
  rw [e2]
  rintro e w4 ⟨rfl, r4, k2⟩
  have K4 : Keeps [] w w4 := (K2.trans k1 (by simp)).trans k2 (fun g hg => .inr (hF g hg))
  clear r2 k1 k2 K2
  go_wp2_with fail
  refine (page_any _ 1 (by omega) (by omega)).mono ?_
  rintro e w5 ⟨rfl, k1⟩
  go_wp2_with fail
  refine (put_any _ F p s2 _ (r4.keep k1 (by simp)) (by simp [s2])).mono ?_
  rw [e3]
  rintro e w6 ⟨rfl, r6, k2⟩
  have K6 : Keeps [] w w6 := (K4.trans k1 (by simp)).trans k2 (fun g hg => .inr (hF g hg))
  clear r4 k1 k2 K4
  go_wp2_with fail
  refine (free_any _ F p s2 0 r6).mono ?_
  rw [e4]
  rintro e w7 ⟨rfl, r7, k2⟩
  have K7 : Keeps [] w w7 := K6.trans k2 (fun g hg => .inr (hF g hg))
  clear r6 k2 K6
  go_wp2_with fail
  refine (page_any _ 2 (by omega) (by omega)).mono ?_
  rintro e w8 ⟨rfl, k1⟩
  go_wp2_with fail
  refine (put_any _ F p s3 _ (r7.keep k1 (by simp)) (by simp [s3])).mono ?_
  rw [e5]
  rintro e w9 ⟨rfl, r9, k2⟩
  have K9 : Keeps [] w w9 := (K7.trans k1 (by simp)).trans k2 (fun g hg => .inr (hF g hg))
  clear r7 k1 k2 K7
  go_wp2_with fail
  refine (get_any _ F p s4 0 r9 (by simp [s4])).mono ?_
  rw [e6]
  rintro e w10 ⟨rfl, r10, k2⟩
  have K10 : Keeps [] w w10 := K9.trans k2 (fun g hg => .inr (hF g hg))
  clear r9 k2 K9
  go_wp2_with fail
  refine (fail_any _ F p s4 3 r10).mono ?_
  rw [e7]
  rintro e w11 ⟨rfl, r11, k2⟩
  have K11 : Keeps [] w w11 := K10.trans k2 (fun g hg => .inr (hF g hg))
  clear r10 k2 K10
  go_wp2_with fail
  refine (get_any _ F p s5 1 r11 (by simp [s5])).mono ?_
  rw [e8]
  rintro e w12 ⟨rfl, r12, k2⟩
  have K12 : Keeps [] w w12 := K11.trans k2 (fun g hg => .inr (hF g hg))
  clear r11 k2 K11
  go_wp2_with fail
  refine (page_any _ 2 (by omega) (by omega)).mono ?_
  rintro e w13 ⟨rfl, k13⟩
  go_wp2_with fail
  have r13 := r12.keep k13 (by simp)
  refine (used_any _ F p s6 r13).mono ?_
  rw [show (cnt s6.L : Int) = 2 from by simp [s6, cnt_cons, cnt_nil, emp_pg]]
  rintro e w14 ⟨rfl, rfl⟩
  go_wp2_with fail
  refine (page_any _ 2 (by omega) (by omega)).mono ?_
  rintro e w14 ⟨rfl, k14⟩
  go_wp2_with fail
  refine (retries_any _ F p s6 (r13.keep k14 (by simp))).mono ?_
  rw [show s6.ret = 3 from rfl]
  rintro e w15 ⟨rfl, rfl⟩
  go_wp2
  go_ret
  exact ⟨rfl, (K12.trans k13 (by simp)).trans k14 (by simp)⟩
end Go.Proofs.Ytfhnlkbmkfjpnaa
