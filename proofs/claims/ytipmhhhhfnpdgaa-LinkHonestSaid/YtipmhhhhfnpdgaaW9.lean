/- LinkFull: the walk. -/
import Derived.Test.YtipmhhhhfnpdgaaW7
import Derived.Laws.BitsAllLaws
import Derived.Laws.BitsLemmas
namespace Go.Proofs.Ytipmhhhhfnpdgaa
open Go.RowKit

theorem and1 (d : Int) : bits .and .i64 d 1 = 0 ∨ bits .and .i64 d 1 = 1 := by
  have h : bits .and .i64 d 1 = ((BitVec.ofInt 64 d &&& 1#64).toNat : Int) := by
    show IntKind.i64.wrap ((BitVec.ofInt 64 d &&& BitVec.ofInt 64 1).toNat : Int) = _
    have e : BitVec.ofInt 64 1 = 1#64 := rfl
    have hx : (BitVec.ofInt 64 d &&& 1#64).toNat ≤ 1 := by rw [BitVec.toNat_and]; exact Nat.and_le_right
    rw [e, IntKind.wrap_i64]
    omega
  have hx : (BitVec.ofInt 64 d &&& 1#64).toNat ≤ 1 := by rw [BitVec.toNat_and]; exact Nat.and_le_right
  omega
theorem send_ok {L : List Pk} {f : Int} {b : ByteArray} (hf : f = 0 ∨ f = 1) (hl : L.length < 500) : Lk.send ⟨L, false⟩ f b = (0, ⟨L ++ [(1 - f, b)], false⟩) := by
  unfold Lk.send; rw [if_neg (by omega), if_neg (by simp), if_neg (by simp only []; omega)]
theorem send_full {L : List Pk} {f : Int} {b : ByteArray} (hf : f = 0 ∨ f = 1) (hl : 500 ≤ L.length) : Lk.send ⟨L, false⟩ f b = (6, ⟨L, false⟩) := by
  unfold Lk.send; rw [if_neg (by omega), if_neg (by simp), if_pos (by simp only []; omega)]
theorem send_cut {L : List Pk} {f : Int} {b : ByteArray} (hf : f = 0 ∨ f = 1) : Lk.send ⟨L, true⟩ f b = (28, ⟨L, true⟩) := by
  unfold Lk.send; rw [if_neg (by omega), if_pos rfl]

structure FullInv (w wr : World) (F : List Nat) (p : Nat) (L : List Pk) (cut : Bool) : Prop where
  r : LkRep 53 wr F p ⟨L, cut⟩
  kp : Keeps [] w wr
  fF : ∀ g ∈ F, w.heap.size ≤ g
theorem FullInv.next {w wr w1 : World} {F : List Nat} {p : Nat} {L L' : List Pk} {c c' : Bool} (I : FullInv w wr F p L c) (h : Next 53 wr w1 F p ⟨L', c'⟩) : ∃ F', FullInv w w1 F' p L' c' := by
  obtain ⟨F', h1, hk, hf⟩ := h
  exact ⟨F', h1, I.kp.trans hk (fun g hg => .inr (I.fF g hg)), fun g hg => (hf g hg).elim (I.fF g) (fun h => Nat.le_trans I.kp.size h)⟩

set_option maxRecDepth 100000 in
set_option maxHeartbeats 4000000 in
theorem full_any (w : World) (n : Int) : Calls Try.prog 4 #[.int .i64 n] w fun e w' => e = .returned (.bool true) ∧ Keeps [] w w' := by
  by_cases g0 : n < 0
  · go_enter Try.func4, Try.ntmps4
    go_wp2_with fail
    refine (small_any _).mono ?_
    rintro e w1 ⟨rfl, k1⟩
    go_wp2_with fail
    refine (new_any _).mono ?_
    rintro e w2 ⟨F, p, rfl, r2, k2, hF⟩
    go_wp2
    go_ret
    exact ⟨rfl, k1.trans k2 (by simp)⟩
  by_cases g1 : 600 < n
  · go_enter Try.func4, Try.ntmps4
    go_wp2_with fail
    refine (small_any _).mono ?_
    rintro e w1 ⟨rfl, k1⟩
    go_wp2_with fail
    refine (new_any _).mono ?_
    rintro e w2 ⟨F, p, rfl, r2, k2, hF⟩
    go_wp2
    go_ret
    exact ⟨rfl, k1.trans k2 (by simp)⟩
  obtain ⟨m, rfl⟩ := Int.eq_ofNat_of_zero_le (by omega : 0 ≤ n)
  have hm : m ≤ 600 := by omega
  go_enter Try.func4, Try.ntmps4
  go_wp2_with fail
  refine (small_any _).mono ?_
  rintro e w1 ⟨rfl, k1⟩
  go_wp2_with fail
  refine (new_any _).mono ?_
  rintro e w2 ⟨F, p, rfl, r2, k2, hF⟩
  have I0 : FullInv w w2 F p [] false := ⟨r2, k1.trans k2 (by simp), fun g hg => Nat.le_trans k1.size (hF g hg)⟩
  clear r2 k1 k2 hF
  go_wp2_with fail
  go_loopw [5] (fun i wr => ∃ (k : Nat) (L : List Pk) (F : List Nat), k ≤ m ∧ i = .int .i64 k ∧ L.length = min k 500 ∧ FullInv w wr F p L false) (fun i _ => m - (intOf i).toNat)
  case atStart => exact ⟨0, [], F, by omega, rfl, rfl, I0⟩
  case round =>
    clear I0
    obtain ⟨k, L, F, hk, rfl, hl, I⟩ := hrel
    have HL := Lib.hid hl
    by_cases hlt : k < m
    · have hf := and1 k
      by_cases h5 : k < 500
      · have hs := send_ok (b := ⟨#[112]⟩) (L := L) hf (by omega)
        have HS := Lib.hid hs
        have hlen : (L ++ [(1 - bits .and .i64 k 1, (⟨#[112]⟩ : ByteArray))]).length = min (k + 1) 500 := by simp; omega
        have HN := Lib.hid hlen
        clear hs hl hf hlen
        go_wp2_with fail
        refine (send_any _ F p _ _ ⟨#[112]⟩ I.r).mono ?_
        rw [HS.out]
        rintro e w3 ⟨rfl, n3⟩
        obtain ⟨F', I3⟩ := I.next n3
        clear n3 I
        go_wp2
        go_roundw
        case rel => exact ⟨k + 1, _, F', by omega, by go_num, HN.out, I3⟩
        case measure => simp [intOf]; omega
      · have hs := send_full (b := ⟨#[112]⟩) (L := L) hf (by omega)
        have HS := Lib.hid hs
        clear hs hl hf
        go_wp2_with fail
        refine (send_any _ F p _ _ ⟨#[112]⟩ I.r).mono ?_
        rw [HS.out]
        rintro e w3 ⟨rfl, n3⟩
        obtain ⟨F', I3⟩ := I.next n3
        clear n3 I
        go_wp2
        go_roundw
        case rel => exact ⟨k + 1, L, F', by omega, by go_num, by have := HL.out; omega, I3⟩
        case measure => simp [intOf]; omega
    · obtain rfl : k = m := by omega
      by_cases c0 : k = 0
      · subst c0
        have hl0 : L.length = 0 := by omega
        have hd : Lk.double ⟨L, false⟩ 0 = (4, ⟨L, false⟩) := by unfold Lk.double hasI; simp; omega
        have HD := Lib.hid hd
        have e0 : (L.length : Int) = 0 := by omega
        have HE := Lib.hid e0
        clear hd hl hl0 e0
        go_wp2_with fail
        refine (count_any _ F p _ I.r).mono ?_
        rw [HE.out]
        rintro e w3 ⟨rfl, rfl⟩
        go_wp2_with fail
        refine (double_any _ F p _ 0 I.r).mono ?_
        rw [HD.out]
        rintro e w3 ⟨rfl, n3⟩
        obtain ⟨F3, I3⟩ := I.next n3
        clear n3 I
        have hc := send_cut (L := []) (f := 0) (b := ⟨#[115]⟩) (.inl rfl)
        have HC := Lib.hid hc
        clear hc
        go_wp2_with fail
        refine (cut_any _ F3 p _ I3.r).mono ?_
        rintro e wc ⟨rfl, Fc, rc, kc, fc⟩
        have Ic : FullInv w wc Fc p [] true := ⟨rc, I3.kp.trans kc (fun g hg => .inr (I3.fF g hg)), fun g hg => I3.fF g (fc g hg)⟩
        clear rc kc fc
        go_wp2_with fail
        refine (count_any _ Fc p _ Ic.r).mono ?_
        rintro e wd ⟨rfl, rfl⟩
        go_wp2_with fail
        refine (iscut_any _ Fc p _ Ic.r).mono ?_
        rintro e wd ⟨rfl, rfl⟩
        go_wp2_with fail
        refine (send_any _ Fc p _ 0 ⟨#[115]⟩ Ic.r).mono ?_
        rw [HC.out]
        rintro e we ⟨rfl, ne⟩
        obtain ⟨Fe, Ie⟩ := Ic.next ne
        go_wp2
        go_ret
        exact ⟨rfl, Ie.kp⟩
      by_cases c5 : k < 500
      · have cp : 0 < k := by omega
        clear c0
        have hl1 : L.length = k := by omega
        have hd : Lk.double ⟨L, false⟩ 0 = (0, ⟨L ++ [L.getD 0 (0, E0)], false⟩) := by
          unfold Lk.double hasI
          rw [if_pos (by simp; omega), if_neg (by simp only []; omega)]
          rfl
        have HD := Lib.hid hd
        have e0 : (L.length : Int) = k := by omega
        have HE := Lib.hid e0
        clear hd hl hl1 e0
        go_wp2_with fail
        refine (count_any _ F p _ I.r).mono ?_
        rw [HE.out]
        rintro e w3 ⟨rfl, rfl⟩
        go_wp2_with fail
        refine (double_any _ F p _ 0 I.r).mono ?_
        rw [HD.out]
        rintro e w3 ⟨rfl, n3⟩
        obtain ⟨F3, I3⟩ := I.next n3
        clear n3 I
        have hc := send_cut (L := []) (f := 0) (b := ⟨#[115]⟩) (.inl rfl)
        have HC := Lib.hid hc
        clear hc
        go_wp2_with fail
        refine (cut_any _ F3 p _ I3.r).mono ?_
        rintro e wc ⟨rfl, Fc, rc, kc, fc⟩
        have Ic : FullInv w wc Fc p [] true := ⟨rc, I3.kp.trans kc (fun g hg => .inr (I3.fF g hg)), fun g hg => I3.fF g (fc g hg)⟩
        clear rc kc fc
        go_wp2_with fail
        refine (count_any _ Fc p _ Ic.r).mono ?_
        rintro e wd ⟨rfl, rfl⟩
        go_wp2_with fail
        refine (iscut_any _ Fc p _ Ic.r).mono ?_
        rintro e wd ⟨rfl, rfl⟩
        go_wp2_with fail
        refine (send_any _ Fc p _ 0 ⟨#[115]⟩ Ic.r).mono ?_
        rw [HC.out]
        rintro e we ⟨rfl, ne⟩
        obtain ⟨Fe, Ie⟩ := Ic.next ne
        go_wp2
        go_ret
        exact ⟨rfl, Ie.kp⟩
      · clear c0
        have hl1 : L.length = 500 := by omega
        have hd : Lk.double ⟨L, false⟩ 0 = (6, ⟨L, false⟩) := by
          unfold Lk.double hasI
          rw [if_pos (by simp; omega), if_pos (by simp only []; omega)]
        have HD := Lib.hid hd
        have hv : Lk.deliver ⟨L, false⟩ 7 = (L.getD 7 (0, E0), 0, ⟨L.eraseIdx 7, false⟩) := by
          unfold Lk.deliver hasI
          rw [if_pos (by simp; omega)]
          rfl
        have HV := Lib.hid hv
        have hl2 : (L.eraseIdx 7).length = 499 := by rw [List.length_eraseIdx_of_lt (by omega)]; omega
        have hq := send_ok (L := L.eraseIdx 7) (f := 0) (b := ⟨#[113]⟩) (.inl rfl) (by omega)
        have HQ := Lib.hid hq
        have hr := send_full (L := L.eraseIdx 7 ++ [(1 - 0, ⟨#[113]⟩)]) (f := 0) (b := ⟨#[114]⟩) (.inl rfl) (by simp; omega)
        have HR := Lib.hid hr
        have e0 : (L.length : Int) = 500 := by omega
        have HE := Lib.hid e0
        clear hd hl hl1 e0 hv hl2 hq hr
        by_cases ck : 500 < k
        all_goals
          go_wp2_with fail
          refine (count_any _ F p _ I.r).mono ?_
          rw [HE.out]
          rintro e w3 ⟨rfl, rfl⟩
          go_wp2_with fail
          refine (double_any _ F p _ 0 I.r).mono ?_
          rw [HD.out]
          rintro e w3 ⟨rfl, n3⟩
          obtain ⟨F3, I3⟩ := I.next n3
          clear n3 I
          go_wp2_with fail
          refine (drop_any _ F3 p _ 7 I3.r).mono ?_
          rw [HV.out]
          rintro e w4 ⟨rfl, r4, k4⟩
          obtain ⟨F4, I4⟩ := I3.next (Next.same r4 k4)
          clear r4 k4 I3
          go_wp2_with fail
          refine (send_any _ F4 p _ 0 ⟨#[113]⟩ I4.r).mono ?_
          rw [HQ.out]
          rintro e w5 ⟨rfl, n5⟩
          obtain ⟨F5, I5⟩ := I4.next n5
          clear n5 I4
          go_wp2_with fail
          refine (send_any _ F5 p _ 0 ⟨#[114]⟩ I5.r).mono ?_
          rw [HR.out]
          rintro e w6 ⟨rfl, n6⟩
          obtain ⟨F6, I6⟩ := I5.next n6
          clear n6 I5
          have hc := send_cut (L := []) (f := 0) (b := ⟨#[115]⟩) (.inl rfl)
          have HC := Lib.hid hc
          clear hc
          go_wp2_with fail
          refine (cut_any _ F6 p _ I6.r).mono ?_
          rintro e wc ⟨rfl, Fc, rc, kc, fc⟩
          have Ic : FullInv w wc Fc p [] true := ⟨rc, I6.kp.trans kc (fun g hg => .inr (I6.fF g hg)), fun g hg => I6.fF g (fc g hg)⟩
          clear rc kc fc
          go_wp2_with fail
          refine (count_any _ Fc p _ Ic.r).mono ?_
          rintro e wd ⟨rfl, rfl⟩
          go_wp2_with fail
          refine (iscut_any _ Fc p _ Ic.r).mono ?_
          rintro e wd ⟨rfl, rfl⟩
          go_wp2_with fail
          refine (send_any _ Fc p _ 0 ⟨#[115]⟩ Ic.r).mono ?_
          rw [HC.out]
          rintro e we ⟨rfl, ne⟩
          obtain ⟨Fe, Ie⟩ := Ic.next ne
          go_wp2
          go_ret
          exact ⟨rfl, Ie.kp⟩
end Go.Proofs.Ytipmhhhhfnpdgaa
