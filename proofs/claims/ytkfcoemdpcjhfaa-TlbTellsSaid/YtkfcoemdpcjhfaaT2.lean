/- The walk of TlbTrue. -/
import Derived.Test.YtkfcoemdpcjhfaaT1
import Derived.Test.YtkfcoemdpcjhfaaOps
import Derived.Deep.CutRange
import Derived.Deep.CutBlock
namespace Go.Proofs.Ytkfcoemdpcjhfaa
open Go.RowKit

/-- The state ahead of round i. -/
structure TI (w wr : World) (F : List Nat) (p : Nat) (d : Nat → Int) (en : Nat → En) (s : Tl) (i : Nat) : Prop where
  o : Own1 w wr F p s
  t : TrueI d en s i
  n : s.n ≤ 40
theorem TI.keep {w wr w' : World} {F : List Nat} {p : Nat} {d : Nat → Int} {en : Nat → En} {s : Tl} {i : Nat} (h : TI w wr F p d en s i) (k : Keeps [] wr w') : TI w w' F p d en s i :=
  ⟨⟨h.o.r.keep k (by simp), h.o.k.trans k (by simp), h.o.f⟩, h.t, h.n⟩
theorem op_n (s : Tl) (d : Int) (e : En) : (s.op d e).n = s.n := by
  unfold Tl.op Tl.fill Tl.drop Tl.look
  repeat' split
  all_goals rfl

set_option maxRecDepth 100000 in
set_option maxHeartbeats 6400000 in
theorem true_any (w : World) (nn : Int) (A : Option Addr) (m c : Nat) (d : Nat → Int) (en : Nat → En) (hm : m ≤ 9223372036854775807) (hz1 : -9223372036854775808 ≤ nn) (hz2 : nn ≤ 9223372036854775807)
    (hA : 0 < m → ∃ bl off, A = some ⟨bl, off, none⟩ ∧ ActsAt w bl off m d en) :
    Calls Try.prog 3 #[.int .i64 nn, .slice A m c] w fun e w' => e = .returned (.bool true) ∧ Keeps [] w w' := by
  by_cases g1 : 40 < nn ∨ 120 < m
  · by_cases a1 : 40 < nn
    · go_enter Try.func3, Try.ntmps3
      go_wp2_with fail
      refine (small_any _).mono ?_
      rintro e w1 ⟨rfl, k1⟩
      go_wp2_with fail
      refine (new_any _ nn hz1 hz2).mono ?_
      rintro e w2 ⟨F, p, rfl, r2, k2, f2⟩
      go_wp2
      go_ret
      exact ⟨rfl, k1.trans k2 (by simp)⟩
    have a3 : 120 < m := by omega
    clear g1
    go_enter Try.func3, Try.ntmps3
    go_wp2_with fail
    refine (small_any _).mono ?_
    rintro e w1 ⟨rfl, k1⟩
    go_wp2_with fail
    refine (new_any _ nn hz1 hz2).mono ?_
    rintro e w2 ⟨F, p, rfl, r2, k2, f2⟩
    go_wp2
    go_ret
    exact ⟨rfl, k1.trans k2 (by simp)⟩
  have b2 : nn ≤ 40 := by omega
  have b3 : m ≤ 120 := by omega
  clear g1 hm
  go_enter Try.func3, Try.ntmps3
  go_wp2_with fail
  refine (small_any _).mono ?_
  rintro e w1 ⟨rfl, k1⟩
  go_wp2_with fail
  refine (new_any _ nn hz1 hz2).mono ?_
  rintro e w2 ⟨F, p, rfl, r2, k2, f2⟩
  have I0 : TI w w2 F p d en ⟨nn.toNat, []⟩ 0 := ⟨⟨r2, k1.trans k2 (by simp), fun g hg => Nat.le_trans k1.size (f2 g hg)⟩, fun e he => by simp at he, by show nn.toNat ≤ 40; omega⟩
  clear k1 k2 f2 r2
  go_wp2_with fail
  go_loopw [7] (fun i wr => ∃ (k : Nat) (s : Tl) (F : List Nat), k ≤ m ∧ i = .int .i64 k ∧ TI w wr F p d en s k) (fun i _ => m - (intOf i).toNat)
  case atStart => exact ⟨0, _, F, by omega, rfl, I0⟩
  case round =>
    clear I0
    obtain ⟨i, s, F, hi, rfl, I⟩ := hrel
    by_cases hlt : i < m
    rotate_left
    · obtain rfl : i = m := by omega
      go_wp2
      go_ret
      exact ⟨rfl, I.o.k⟩
    obtain ⟨bl, off, rfl, O⟩ := hA (by omega)
    have O1 := O.keep I.o.k
    have q0 := O1.c0 i hlt
    have q1 := O1.c1 i hlt
    have q2 := O1.c2 i hlt
    have q3 := O1.c3 i hlt
    have q4 := O1.c4 i hlt
    have hx := do_any wr F p s (d i) (en i) (by have := I.n; omega) I.o.r
    have HX := Lib.hid hx
    clear hx O1
    have h7 := and_7 (d i)
    go_wp2_with fail
    refine HX.out.mono ?_
    rintro e w3 ⟨rfl, n3⟩
    obtain ⟨F3, o3⟩ := I.o.next n3
    have I3 : TI w w3 F3 p d en (s.op (d i) (en i)) (i + 1) := ⟨o3, I.t.step, by rw [op_n]; exact I.n⟩
    have IT := Lib.hid I.t
    clear o3 n3 I HX
    have O3 := O.keep I3.o.k
    have q0 := O3.c0 i hlt
    have q1 := O3.c1 i hlt
    have q2 := O3.c2 i hlt
    have q3 := O3.c3 i hlt
    have q4 := O3.c4 i hlt
    clear O3
    by_cases hl : 2 < d i % 8
    · have t1 : decide (2 < d i % 8) = true := by simp [hl]
      clear IT
      go_wp2_with fail
      go_roundw
      case rel => exact ⟨i + 1, _, F3, by omega, by go_num, I3⟩
      case measure => simp [intOf]; omega
    have t1 : decide (2 < d i % 8) = false := by simp; omega
    have HQ : Hid (((s.opR (d i) (en i)).2 = true → ∃ k : Nat, lastK d en (en i).s (en i).p i = k ∧ (en k).f = (s.opR (d i) (en i)).1 ∧ ((en i).w = true → (en k).w = true)) ∧ ((s.opR (d i) (en i)).2 = false → (s.opR (d i) (en i)).1 = 0)) := Lib.hid (by
      have e : s.opR (d i) (en i) = s.lookR (en i).s (en i).p (en i).w := by unfold Tl.opR; rw [if_neg (by omega), if_neg (by omega), if_neg (by omega), if_neg (by omega)]
      rw [e]
      exact ⟨IT.out.found, lookR_no⟩)
    generalize s.opR (d i) (en i) = R at *
    obtain ⟨R1, R2⟩ := R
    have HI3 := Lib.hid I3
    have KI := I3.o.k
    clear IT I3 hA
    go_wp2_with fail
    go_loopw [10, 11] (fun a b wr => ∃ k : Nat, k ≤ i ∧ b = .int .i64 k ∧ a = .int .i64 (lastK d en (en i).s (en i).p k) ∧ Keeps [] w3 wr) (fun _ b _ => i - (intOf b).toNat)
    case atStart => exact ⟨0, by omega, rfl, rfl, Keeps.refl _ _⟩
    case round =>
      clear q0 q1 q2 q3 q4
      obtain ⟨k, hk, rfl, rfl, kp⟩ := hrel
      have O4 := O.keep (KI.trans kp (by simp))
      have q0 := O4.c0 i hlt
      have q1 := O4.c1 i hlt
      have q2 := O4.c2 i hlt
      have q3 := O4.c3 i hlt
      have q4 := O4.c4 i hlt
      by_cases hkl : k < i
      rotate_left
      · obtain rfl : k = i := by omega
        have y4 := q4
        have HI4 : TI w wr F3 p d en (s.op (d k) (en k)) (k + 1) := HI3.out.keep kp
        have hrg := lastK_range d en (en k).s (en k).p k
        cases R2 with
        | false =>
          obtain rfl : R1 = 0 := HQ.out.2 rfl
          clear HQ HI3
          go_wp2_with fail
          go_roundw
          case rel => exact ⟨k + 1, _, F3, by omega, by go_num, HI4⟩
          case measure => simp [intOf]; omega
        | true =>
          obtain ⟨j, hj, hf, hw⟩ := HQ.out.1 rfl
          have hf : (en j).f = R1 := hf
          rw [hj] at hrg ⊢
          have hjm : j < m := by omega
          have y3 := O4.c3 j hjm
          have y5 := O4.c4 j hjm
          rw [hf] at y3
          have hmx : max (j : Int) 0 = j := by omega
          have hmx2 : max (0 : Int) j = j := by omega
          have tj : decide ((j : Int) < 0) = false := by simp
          clear HQ HI3
          cases hwi : (en k).w with
          | true =>
            rw [hwi] at y4 q4
            rw [hw hwi] at y5
            go_wp2_with fail
            go_roundw
            case rel => exact ⟨k + 1, _, F3, by omega, by go_num, HI4⟩
            case measure => simp [intOf]; omega
          | false =>
            rw [hwi] at y4 q4
            go_wp2_with fail
            go_roundw
            case rel => exact ⟨k + 1, _, F3, by omega, by go_num, HI4⟩
            case measure => simp [intOf]; omega
      have p0 := O4.c0 k (by omega)
      have p1 := O4.c1 k (by omega)
      have p2 := O4.c2 k (by omega)
      have p3 := O4.c3 k (by omega)
      have p4 := O4.c4 k (by omega)
      have bll : bl < wr.heap.size := O4.lt
      clear O4
      have h8 := and_7 (d k)
      have hkm : k < m := by omega
      go_upto_region 15 with fail
      have pB : Blk (wr.alloc (.cells #[.int .i64 (d k), .int .i64 (en k).s, .int .i64 (en k).p, .int .i64 (en k).f, .bool (en k).w] 29)) wr.heap.size 29 #[.int .i64 (d k), .int .i64 (en k).s, .int .i64 (en k).p, .int .i64 (en k).f, .bool (en k).w] := Blk.new _ _ _
      have kB : Keeps [] w3 (wr.alloc (.cells #[.int .i64 (d k), .int .i64 (en k).s, .int .i64 (en k).p, .int .i64 (en k).f, .bool (en k).w] 29)) := kp.alloc _
      have O5 := O.keep (KI.trans kB (by simp))
      have r1 := O5.c1 i hlt
      have r2 := O5.c2 i hlt
      have x1 := pB.cell 1
      have x2 := pB.cell 2
      clear p0 p1 p2 p3 p4 q0 q1 q2 q3 q4
      generalize wr.alloc (.cells #[.int .i64 (d k), .int .i64 (en k).s, .int .i64 (en k).p, .int .i64 (en k).f, .bool (en k).w] 29) = wB at *
      generalize wr.heap.size = xb at *
      go_cut [13] from 55 to 117 (fun s13 wc => s13 = .bool ((en k).is (en i).s (en i).p) ∧ Keeps [] w3 wc ∧ Blk wc xb 29 #[.int .i64 (d k), .int .i64 (en k).s, .int .i64 (en k).p, .int .i64 (en k).f, .bool (en k).w])
      case first =>
        cases e1 : ((en k).s == (en i).s) with
        | true =>
          go_wp2_with fail
          go_quiet (fail)
          go_wp2
          go_meet
          case rel => exact ⟨by unfold En.is; rw [e1]; rfl, kB.drewN _, pB.drewN _⟩
        | false =>
          go_wp2_with fail
          go_quiet (fail)
          go_wp2
          go_meet
          case rel => exact ⟨by unfold En.is; rw [e1]; rfl, kB.drewN _, pB.drewN _⟩
      case rest =>
      obtain ⟨rfl, kc, pc⟩ := hcut
      have O5 := O.keep (KI.trans kc (by simp))
      have r1 := O5.c1 i hlt
      have x0 := pc.cell 0
      have x1 := pc.cell 1
      have x3 := pc.cell 3
      have hE : lastK d en (en i).s (en i).p (k + 1) = lstep en (en i).s (en i).p k (d k) (lastK d en (en i).s (en i).p k) := rfl
      have hrg := lastK_range d en (en i).s (en i).p k
      have hq0 := Int.emod_nonneg (d k) (by omega : (8 : Int) ≠ 0)
      have hq1 := Int.emod_lt_of_pos (d k) (by omega : (0 : Int) < 8)
      obtain hq | hq | hq | hq | hq | hq | hq | hq : d k % 8 = 0 ∨ d k % 8 = 1 ∨ d k % 8 = 2 ∨ d k % 8 = 3 ∨ d k % 8 = 4 ∨ d k % 8 = 5 ∨ d k % 8 = 6 ∨ d k % 8 = 7 := by omega
      · as_aux_lemma =>
          rw [hq] at h8
          have HE := Lib.hid (show lastK d en (en i).s (en i).p (k + 1) = lastK d en (en i).s (en i).p k by rw [hE]; unfold lstep; rw [hq]; simp)
          clear hE
          go_wp2_with fail
          go_roundw
          case rel => exact ⟨k + 1, by omega, by go_num, by rw [HE.out], kc⟩
          case measure => simp [intOf]; omega
      · as_aux_lemma =>
          rw [hq] at h8
          have HE := Lib.hid (show lastK d en (en i).s (en i).p (k + 1) = lastK d en (en i).s (en i).p k by rw [hE]; unfold lstep; rw [hq]; simp)
          clear hE
          go_wp2_with fail
          go_roundw
          case rel => exact ⟨k + 1, by omega, by go_num, by rw [HE.out], kc⟩
          case measure => simp [intOf]; omega
      · as_aux_lemma =>
          rw [hq] at h8
          have HE := Lib.hid (show lastK d en (en i).s (en i).p (k + 1) = lastK d en (en i).s (en i).p k by rw [hE]; unfold lstep; rw [hq]; simp)
          clear hE
          go_wp2_with fail
          go_roundw
          case rel => exact ⟨k + 1, by omega, by go_num, by rw [HE.out], kc⟩
          case measure => simp [intOf]; omega
      · as_aux_lemma =>
          rw [hq] at h8
          cases hs : (en k).is (en i).s (en i).p with
          | true =>
            have HE := Lib.hid (show lastK d en (en i).s (en i).p (k + 1) = (k : Int) by rw [hE]; unfold lstep; rw [hq]; simp [hs])
            clear hE
            go_wp2_with fail
            go_roundw
            case rel => exact ⟨k + 1, by omega, by go_num, by rw [HE.out], kc⟩
            case measure => simp [intOf]; omega
          | false =>
            have HE := Lib.hid (show lastK d en (en i).s (en i).p (k + 1) = lastK d en (en i).s (en i).p k by rw [hE]; unfold lstep; rw [hq]; simp [hs])
            clear hE
            go_wp2_with fail
            go_roundw
            case rel => exact ⟨k + 1, by omega, by go_num, by rw [HE.out], kc⟩
            case measure => simp [intOf]; omega
      · as_aux_lemma =>
          rw [hq] at h8
          cases hs : (en k).is (en i).s (en i).p with
          | true =>
            have HE := Lib.hid (show lastK d en (en i).s (en i).p (k + 1) = (k : Int) by rw [hE]; unfold lstep; rw [hq]; simp [hs])
            clear hE
            go_wp2_with fail
            go_roundw
            case rel => exact ⟨k + 1, by omega, by go_num, by rw [HE.out], kc⟩
            case measure => simp [intOf]; omega
          | false =>
            have HE := Lib.hid (show lastK d en (en i).s (en i).p (k + 1) = lastK d en (en i).s (en i).p k by rw [hE]; unfold lstep; rw [hq]; simp [hs])
            clear hE
            go_wp2_with fail
            go_roundw
            case rel => exact ⟨k + 1, by omega, by go_num, by rw [HE.out], kc⟩
            case measure => simp [intOf]; omega
      · as_aux_lemma =>
          rw [hq] at h8
          cases hs : (en k).is (en i).s (en i).p with
          | true =>
            have HE := Lib.hid (show lastK d en (en i).s (en i).p (k + 1) = -1 by rw [hE]; unfold lstep; rw [hq]; simp [hs])
            clear hE
            go_wp2_with fail
            go_roundw
            case rel => exact ⟨k + 1, by omega, by go_num, by rw [HE.out], kc⟩
            case measure => simp [intOf]; omega
          | false =>
            have HE := Lib.hid (show lastK d en (en i).s (en i).p (k + 1) = lastK d en (en i).s (en i).p k by rw [hE]; unfold lstep; rw [hq]; simp [hs])
            clear hE
            go_wp2_with fail
            go_roundw
            case rel => exact ⟨k + 1, by omega, by go_num, by rw [HE.out], kc⟩
            case measure => simp [intOf]; omega
      · as_aux_lemma =>
          rw [hq] at h8
          by_cases hL : 0 ≤ lastK d en (en i).s (en i).p k
          · obtain ⟨j, hj⟩ : ∃ j : Nat, lastK d en (en i).s (en i).p k = j := ⟨(lastK d en (en i).s (en i).p k).toNat, by omega⟩
            rw [hj] at hE ⊢
            have hjm : j < m := by omega
            have y3 := O5.c3 j hjm
            have hmx : max (j : Int) 0 = j := by omega
            have hmx2 : max (0 : Int) j = j := by omega
            have tj : decide ((0 : Int) ≤ j) = true := by simp
            cases hs : ((en j).f == (en k).f) with
            | true =>
              have HE := Lib.hid (show lastK d en (en i).s (en i).p (k + 1) = -1 by rw [hE]; unfold lstep; rw [hq]; simp [hs])
              clear hE
              go_wp2_with fail
              go_quiet (fail)
              go_wp2
              go_roundw
              case rel => exact ⟨k + 1, by omega, by go_num, by rw [HE.out], kc.drewN _⟩
              case measure => simp [intOf]; omega
            | false =>
              have HE := Lib.hid (show lastK d en (en i).s (en i).p (k + 1) = (j : Int) by rw [hE]; unfold lstep; rw [hq]; simpa using hs)
              clear hE
              go_wp2_with fail
              go_quiet (fail)
              go_wp2
              go_roundw
              case rel => exact ⟨k + 1, by omega, by go_num, by rw [HE.out], kc.drewN _⟩
              case measure => simp [intOf]; omega
          · have tj : decide (0 ≤ lastK d en (en i).s (en i).p k) = false := by simp; omega
            have HE := Lib.hid (show lastK d en (en i).s (en i).p (k + 1) = lastK d en (en i).s (en i).p k by rw [hE]; unfold lstep; rw [hq]; simp [hL])
            clear hE
            go_wp2_with fail
            go_quiet (fail)
            go_wp2
            go_roundw
            case rel => exact ⟨k + 1, by omega, by go_num, by rw [HE.out], kc.drewN _⟩
            case measure => simp [intOf]; omega
      · as_aux_lemma =>
          rw [hq] at h8
          cases hs : ((en k).s == (en i).s) with
          | true =>
            have HE := Lib.hid (show lastK d en (en i).s (en i).p (k + 1) = -1 by rw [hE]; unfold lstep; rw [hq]; simp [hs])
            clear hE
            go_wp2_with fail
            go_quiet (fail)
            go_wp2
            go_roundw
            case rel => exact ⟨k + 1, by omega, by go_num, by rw [HE.out], kc.drewN _⟩
            case measure => simp [intOf]; omega
          | false =>
            have HE := Lib.hid (show lastK d en (en i).s (en i).p (k + 1) = lastK d en (en i).s (en i).p k by rw [hE]; unfold lstep; rw [hq]; simp [hs])
            clear hE
            go_wp2_with fail
            go_quiet (fail)
            go_wp2
            go_roundw
            case rel => exact ⟨k + 1, by omega, by go_num, by rw [HE.out], kc.drewN _⟩
            case measure => simp [intOf]; omega
end Go.Proofs.Ytkfcoemdpcjhfaa
