/- SwapSizes: the walk. -/
import Derived.Test.YtfhnlkbmkfjpnaaW6
namespace Go.Proofs.Ytfhnlkbmkfjpnaa
open Go.RowKit

def stS (n i : Nat) : List ByteArray := (List.range i).map (fun j : Nat => pg ((j : Int) % 256)) ++ List.replicate (n - i) E0
theorem stS_len {n i : Nat} (h : i ≤ n) : (stS n i).length = n := by simp [stS]; omega
theorem stS_lo {n i j : Nat} (h : i ≤ n) (hj : j < i) : (stS n i)[j]'(by rw [stS_len h]; omega) = pg ((j : Int) % 256) := by
  simp only [stS]
  rw [List.getElem_append_left (by simpa using hj)]
  simp
theorem stS_hi {n i j : Nat} (h : i ≤ n) (hj : i ≤ j) (hn : j < n) : (stS n i)[j]'(by rw [stS_len h]; omega) = E0 := by
  simp only [stS]
  rw [List.getElem_append_right (by simpa using hj)]
  simp
theorem stS_cnt {n i : Nat} : cnt (stS n i) = i := by
  unfold stS cnt
  rw [List.countP_append, List.countP_map, List.countP_replicate]
  have : List.countP ((fun s => !emp s) ∘ fun j : Nat => pg ((j : Int) % 256)) (List.range i) = (List.range i).length := by
    rw [List.countP_eq_length]
    intro a _
    simp [emp_pg]
  rw [this]
  simp [emp_E0]
theorem stS_first {n i : Nat} (h : i < n) : first (stS n i) = i := by
  rw [first_eq]
  have hl : i < (stS n i).length := by rw [stS_len (by omega)]; exact h
  rw [List.findIdx_eq hl]
  refine ⟨by rw [stS_hi (by omega) (Nat.le_refl _) h]; exact emp_E0, fun j hj => ?_⟩
  rw [stS_lo (by omega) hj]
  exact emp_pg _
theorem stS_set {n i : Nat} (h : i < n) : (stS n i).set i (pg ((i : Int) % 256)) = stS n (i + 1) := by
  apply List.ext_getElem
  · rw [List.length_set, stS_len (by omega), stS_len (by omega)]
  · intro j h1 h2
    rw [List.length_set, stS_len (by omega)] at h1
    rw [List.getElem_set]
    split
    · rename_i e; subst e; rw [stS_lo (by omega) (by omega)]
    · rename_i e
      rcases Nat.lt_or_ge j i with hj | hj
      · rw [stS_lo (by omega) hj, stS_lo (by omega) (by omega)]
      · rw [stS_hi (by omega) hj h1, stS_hi (by omega) (by omega) h1]
theorem putS {n i : Nat} (h : i < n) : Sw.put ⟨stS n i, 0, 0⟩ (pg ((i : Int) % 256)) = ((i : Int), true, ⟨stS n (i + 1), 0, 0⟩) := by
  unfold Sw.put
  rw [if_pos ⟨pg_size _, by show cnt (stS n i) < (stS n i).length; rw [stS_cnt, stS_len (by omega)]; exact h⟩]
  simp only []
  rw [stS_first h, stS_set h]
  rfl
theorem putS_full (n : Nat) (x : ByteArray) : Sw.put ⟨stS n n, 0, 0⟩ x = (-1, false, ⟨stS n n, 0, 0⟩) := by
  unfold Sw.put
  rw [if_neg]
  rintro ⟨_, h⟩
  simp only [stS_cnt, stS_len (Nat.le_refl n)] at h
  omega
theorem getS_out (n : Nat) (i : Int) (h : i < 0 ∨ n ≤ i) : Sw.get ⟨stS n n, 0, 0⟩ i = (E0, 4, ⟨stS n n, 0, 0⟩) := by
  unfold Sw.get
  rw [if_neg]
  simp only [hasB, stS_len (Nat.le_refl n)]
  simp
  omega
theorem getS_in (n : Nat) (h : 0 < n) : Sw.get ⟨stS n n, 0, 0⟩ ((n : Int) - 1) = (pg (((n : Int) - 1) % 256), 0, ⟨stS n n, 0, 0⟩) := by
  have e : ((n : Int) - 1).toNat = n - 1 := by omega
  have hx : (stS n n).getD (n - 1) E0 = pg (((n : Int) - 1) % 256) := by
    have h1 : n - 1 < (stS n n).length := by rw [stS_len (Nat.le_refl n)]; omega
    rw [List.getD_eq_getElem?_getD, List.getElem?_eq_getElem h1, Option.getD_some, stS_lo (Nat.le_refl n) (by omega)]
    congr 1
    omega
  unfold Sw.get
  have : hasB (stS n n) ((n : Int) - 1) = true := by
    unfold hasB
    rw [e, hx, emp_pg, stS_len (Nat.le_refl n)]
    simp
    omega
  simp only [this, if_true, e, hx]
  rfl

set_option maxRecDepth 100000 in
set_option maxHeartbeats 1000000 in
theorem sizes_any (w : World) (n : Int) (_hn : -9223372036854775808 ≤ n ∧ n ≤ 9223372036854775807) :
    Calls Try.prog 4 #[.int .i64 n] w fun e w' => e = .returned (.bool true) ∧ Keeps [] w w' := by
  obtain ⟨m, hm, hmm⟩ : ∃ m : Nat, max 0 (min n 4096) = (m : Int) ∧ m ≤ 4096 := ⟨(max 0 (min n 4096)).toNat, by omega, by omega⟩
  have hs0 : stS m 0 = List.replicate m E0 := by simp [stS]
  have HS := Lib.hid hs0; clear hs0
  have HM := Lib.hid hm; clear hm
  go_enter Try.func4, Try.ntmps4
  go_wp2_with fail
  refine (small_any _).mono ?_
  rintro e w1 ⟨rfl, k1⟩
  go_wp2_with fail
  refine (new_any _ n).mono ?_
  rintro e w2 ⟨F, p, rfl, r2, k2, hF⟩
  rw [HM.out, Int.toNat_natCast, ← HS.out] at r2
  have K : Keeps [] w w2 := k1.trans k2 (by simp)
  have hF' : ∀ g ∈ F, w.heap.size ≤ g := fun g hg => Nat.le_trans k1.size (hF g hg)
  clear k1 k2 hF
  go_upto_if 24 with fail
  have hif : (if 0 < (if 4096 < n then 4096 else n) then (if 4096 < n then (4096 : Int) else n) else 0) = (m : Int) := by
    have := HM.out
    split <;> split <;> omega
  rw [hif]
  clear hif
  generalize (if 4096 < n then (4096 : Int) else n) = q21
  go_wp2_with fail
  go_loopw [6] (fun i wr => ∃ k : Nat, k ≤ m ∧ i = .int .i64 k ∧ SwRep wr F p ⟨stS m k, 0, 0⟩ ∧ Keeps [] w wr) (fun i _ => m - (intOf i).toNat)
  case atStart => exact ⟨0, by omega, rfl, r2, K⟩
  case round =>
    obtain ⟨k, hk, rfl, hr, hkp⟩ := hrel
    by_cases hlt : k < m
    · have hput := putS hlt
      have HP := Lib.hid hput; clear hput
      go_wp2_with fail
      refine (page_any _ ((k : Int) % 256) (by omega) (by omega)).mono ?_
      rintro e w3 ⟨rfl, k3⟩
      go_wp2_with fail
      refine (put_any _ F p _ _ (hr.keep k3 (by simp)) (by simp)).mono ?_
      rw [HP.out]
      rintro e w4 ⟨rfl, r4, k4⟩
      have K4 : Keeps [] w w4 := (hkp.trans k3 (by simp)).trans k4 (fun g hg => .inr (hF' g hg))
      clear k3 k4 hkp hr
      go_wp2
      go_roundw
      case rel => exact ⟨k + 1, by omega, by go_num, r4, K4⟩
      case measure => simp [intOf]; omega
    · obtain rfl : k = m := by omega
      go_wp2_with fail
      refine (page_any _ 7 (by omega) (by omega)).mono ?_
      rintro e w3 ⟨rfl, k3⟩
      have K3 : Keeps [] w w3 := hkp.trans k3 (by simp)
      have r3 := hr.keep k3 (by simp)
      clear hkp k3 hr
      go_wp2_with fail
      refine (put_any _ F p _ _ r3 (by simp)).mono ?_
      rw [putS_full]
      rintro e w4 ⟨rfl, r4, k4⟩
      have K4 : Keeps [] w w4 := K3.trans k4 (fun g hg => .inr (hF' g hg))
      clear K3 k4 r3
      go_wp2_with fail
      refine (get_any _ F p _ k r4 (by simp)).mono ?_
      rw [getS_out _ _ (.inr (by omega))]
      rintro e w5 ⟨rfl, r5, k5⟩
      have K5 : Keeps [] w w5 := K4.trans k5 (fun g hg => .inr (hF' g hg))
      clear K4 k5 r4
      go_wp2_with fail
      refine (get_any _ F p _ (-1) r5 (by simp)).mono ?_
      rw [getS_out _ _ (.inl (by omega))]
      rintro e w6 ⟨rfl, r6, k6⟩
      have K6 : Keeps [] w w6 := K5.trans k6 (fun g hg => .inr (hF' g hg))
      clear K5 k6 r5
      go_wp2_with fail
      refine (used_any _ F p _ r6).mono ?_
      rw [stS_cnt]
      rintro e w7 ⟨rfl, rfl⟩
      by_cases h0 : 0 < k
      · go_wp2_with fail
        refine (get_any _ F p _ ((k : Int) - 1) r6 (by simp)).mono ?_
        rw [getS_in _ h0]
        rintro e w7 ⟨rfl, r7, k7⟩
        have K7 : Keeps [] w w7 := K6.trans k7 (fun g hg => .inr (hF' g hg))
        clear K6 k7 r6
        go_wp2_with fail
        refine (page_any _ (((k : Int) - 1) % 256) (by omega) (by omega)).mono ?_
        rintro e w8 ⟨rfl, k8⟩
        go_wp2
        go_ret
        exact ⟨rfl, K7.trans k8 (by simp)⟩
      · obtain rfl : k = 0 := by omega
        go_wp2
        go_ret
        exact ⟨rfl, K6⟩
end Go.Proofs.Ytfhnlkbmkfjpnaa
