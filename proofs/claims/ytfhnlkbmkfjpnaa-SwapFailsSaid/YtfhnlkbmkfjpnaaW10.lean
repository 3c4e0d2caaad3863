/- SwapFails: the walk. -/
import Derived.Test.YtfhnlkbmkfjpnaaW9
namespace Go.Proofs.Ytfhnlkbmkfjpnaa
open Go.RowKit

theorem step_two {L : List ByteArray} {due ret d m b : Int} (h7 : opk d ≠ 7) :
    (Sw.step ⟨L, 0, 0⟩ d m b) = ((Sw.step ⟨L, due, ret⟩ d m b).1, ⟨(Sw.step ⟨L, due, ret⟩ d m b).2.L, 0, 0⟩) ∧
    ((opk d < 5 ∧ (Sw.step ⟨L, due, ret⟩ d m b).1.2.2 = 0) → (Sw.step ⟨L, due, ret⟩ d m b).2 = ⟨(Sw.step ⟨L, due, ret⟩ d m b).2.L, 0, ret + due⟩) ∧
    (¬(opk d < 5 ∧ (Sw.step ⟨L, due, ret⟩ d m b).1.2.2 = 0) → (Sw.step ⟨L, due, ret⟩ d m b).2 = ⟨(Sw.step ⟨L, due, ret⟩ d m b).2.L, due, ret⟩) := by
  by_cases h34 : opk d = 3 ∨ opk d = 4
  · simp only [Sw.step, Sw.get, if_pos h34]
    have : opk d < 5 := by omega
    cases hh : hasB L m <;> simp [this]
  · by_cases h56 : opk d = 5 ∨ opk d = 6
    · simp only [Sw.step, Sw.free, if_neg h34, if_pos h56]
      have : ¬opk d < 5 := by omega
      cases hh : hasB L m <;> simp [this]
    · simp only [Sw.step, Sw.put, if_neg h34, if_neg h56, if_neg h7]
      by_cases hc : (bodyS d m b).size = 64 ∧ cnt L < L.length
      · simp only [if_pos hc]
        have := opk_range d
        have : opk d < 5 := by omega
        simp [this]
      · simp only [if_neg hc]
        simp

/-- What holds at the head of each round. -/
structure FailsInv (w wr : World) (F G : List Nat) (p q : Nat) (L : List ByteArray) (due ret : Int) (k : Nat) : Prop where
  rx : SwRep wr F p ⟨L, due, ret⟩
  ry : SwRep wr G q ⟨L, 0, 0⟩
  dj : ∀ g ∈ F, g ∉ G
  kp : Keeps [] w wr
  fF : ∀ g ∈ F, w.heap.size ≤ g
  fG : ∀ g ∈ G, w.heap.size ≤ g
  rt : ret ≤ 1000 * k

set_option maxRecDepth 100000 in
set_option maxHeartbeats 4000000 in
theorem fails_any (w : World) (slots : Int) (A : Option Addr) (n c : Nat) (d m b : Nat → Int) (_hn : n ≤ 9223372036854775807)
    (hA : 0 < n → ∃ bl off, A = some ⟨bl, off, none⟩ ∧ OpsAt w bl off n d m b) :
    Calls Try.prog 5 #[.int .i64 slots, .slice A n c] w fun e w' => e = .returned (.bool true) ∧ Keeps [] w w' := by
  by_cases g0 : 100 < n ∨ slots < 0 ∨ 60 < slots
  · rcases g0 with g | g | g
    · go_enter Try.func5, Try.ntmps5
      go_wp2_with fail
      refine (small_any _).mono ?_
      rintro e w1 ⟨rfl, k1⟩
      go_wp2
      go_ret
      exact ⟨rfl, k1⟩
    · by_cases g1 : 100 < n
      all_goals
        go_enter Try.func5, Try.ntmps5
        go_wp2_with fail
        refine (small_any _).mono ?_
        rintro e w1 ⟨rfl, k1⟩
        go_wp2
        go_ret
        exact ⟨rfl, k1⟩
    · by_cases g1 : 100 < n
      all_goals
        go_enter Try.func5, Try.ntmps5
        go_wp2_with fail
        refine (small_any _).mono ?_
        rintro e w1 ⟨rfl, k1⟩
        go_wp2
        go_ret
        exact ⟨rfl, k1⟩
  have g1 : n ≤ 100 := by omega
  have g2 : 0 ≤ slots := by omega
  have g3 : slots ≤ 60 := by omega
  clear g0
  go_enter Try.func5, Try.ntmps5
  go_wp2_with fail
  refine (small_any _).mono ?_
  rintro e w1 ⟨rfl, k1⟩
  go_wp2_with fail
  refine (new_any _ slots).mono ?_
  rintro e w2 ⟨F, p, rfl, r2, k2, hF⟩
  go_wp2_with fail
  refine (new_any _ slots).mono ?_
  rintro e w3 ⟨G, q, rfl, r3, k3, hG⟩
  have I0 : FailsInv w w3 F G p q (List.replicate (max 0 (min slots 4096)).toNat E0) 0 0 0 :=
    ⟨r2.keep k3 (by simp), r3, fun g hf hg => by have := r2.lt g hf; have := hG g hg; omega, (k1.trans k2 (by simp)).trans k3 (by simp),
      fun g hg => Nat.le_trans k1.size (hF g hg), fun g hg => Nat.le_trans k1.size (Nat.le_trans k2.size (hG g hg)), by simp⟩
  clear r2 r3 k1 k2 k3 hF hG
  go_wp2_with fail
  go_loopw [8, 9, 10] (fun u a i wr => ∃ (k : Nat) (L : List ByteArray) (due ret : Int), k ≤ n ∧ i = .int .i64 k ∧ u = .int .i64 due ∧ a = .int .i64 ret ∧ FailsInv w wr F G p q L due ret k) (fun _ _ i _ => n - (intOf i).toNat)
  case atStart => exact ⟨0, _, 0, 0, by omega, rfl, rfl, rfl, I0⟩
  case round =>
    obtain ⟨k, L, due, ret, hk, rfl, rfl, rfl, I⟩ := hrel
    clear I0
    by_cases hlt : k < n
    rotate_left
    · go_wp2_with fail
      refine (retries_any _ G q _ I.ry).mono ?_
      rintro e w4 ⟨rfl, rfl⟩
      go_wp2_with fail
      refine (list_any _ F p _ I.rx).mono ?_
      rintro e w5 ⟨v, rfl, o5, k5, f5⟩
      go_wp2_with fail
      refine (list_any _ G q _ (I.ry.keep k5 (by simp))).mono ?_
      rintro e w6 ⟨v2, rfl, o6, k6, f6⟩
      go_wp2_with fail
      refine (same_any _ v v2 _ _ (own_keep o5 k6 (by simp)) o6).mono ?_
      rintro e w7 ⟨rfl, k7⟩
      go_wp2
      go_ret
      exact ⟨rfl, ((I.kp.trans k5 (by simp)).trans k6 (by simp)).trans k7 (by simp)⟩
    obtain ⟨bl, off, rfl, O⟩ := hA (by omega)
    have hret : ret ≤ 1000000000 := by have := I.rt; omega
    have hb0 := (O.rb k hlt).1
    have hb1 := (O.rb k hlt).2
    have hor := opk_range (d k)
    have r0 : 0 ≤ ret := by obtain ⟨_, _, h⟩ := I.rx; exact h.r0
    have d0 : 0 ≤ due := by obtain ⟨_, _, h⟩ := I.rx; exact h.d0
    have d1 : due ≤ 1000 := by obtain ⟨_, _, h⟩ := I.rx; exact h.d1
    have O1 := O.keep I.kp
    have q0 := O1.c0 k hlt
    have q1 := O1.c1 k hlt
    have q2 := O1.c2 k hlt
    clear O1
    by_cases h7 : opk (d k) = 7
    · have t7 : (bits .and .i64 (d k) 7 == 7) = true := by simp [show bits .and .i64 (d k) 7 = 7 from h7]
      have HS := Lib.hid (step_fail (s := ⟨L, due, ret⟩) (m := m k) (b := b k) h7)
      clear h7 hor
      go_wp2_with fail
      refine (do_any wr F p _ (d k) (m k) (b k) I.rx hret hb0 hb1).mono ?_
      rw [HS.out]
      rintro e w1 ⟨rfl, r1, k1⟩
      have K1 := I.kp.trans k1 (fun g hg => .inr (I.fF g hg))
      have O1 := O.keep K1
      have q0 := O1.c0 k hlt
      have q1 := O1.c1 k hlt
      have J : FailsInv w w1 F G p q L (clampF (m k)) ret (k + 1) := ⟨r1, I.ry.keep k1 (fun g hg hf => I.dj g hf hg), I.dj, K1, I.fF, I.fG, by have := I.rt; omega⟩
      clear r1 k1 K1 O1 I
      go_wp2
      all_goals
        go_roundw
        case rel => exact ⟨k + 1, L, clampF (m k), ret, by omega, by go_num, by congr 1; unfold clampF; omega, rfl, J⟩
        case measure => simp [intOf]; omega
    · have t7 : (bits .and .i64 (d k) 7 == 7) = false := by simp; exact h7
      obtain ⟨e1, e2, e3⟩ := step_two (L := L) (due := due) (ret := ret) (m := m k) (b := b k) h7
      have hx := do_any wr F p ⟨L, due, ret⟩ (d k) (m k) (b k) I.rx hret hb0 hb1
      have hy := fun W (h : SwRep W G q ⟨L, 0, 0⟩) => do_any W G q ⟨L, 0, 0⟩ (d k) (m k) (b k) h (by simp) hb0 hb1
      simp only [e1] at hy
      clear e1
      generalize Sw.step ⟨L, due, ret⟩ (d k) (m k) (b k) = r at *
      obtain ⟨⟨R1, R2, R3⟩, s'⟩ := r
      simp only [] at e2 e3 hx hy
      have HX := Lib.hid hx
      have HY := Lib.hid hy
      clear hx hy
      have case2 : ∀ (due' ret' : Int), s' = ⟨s'.L, due', ret'⟩ → ret' ≤ ret + 1000 → 0 ≤ ret' → True := fun _ _ _ _ _ => trivial
      clear case2
      by_cases h5 : opk (d k) < 5
      · have t5 : bits .and .i64 (d k) 7 < 5 := h5
        by_cases h0 : R3 = 0
        · have es := e2 ⟨h5, h0⟩
          have t0 : (R3 == 0) = true := by simp [h0]
          generalize s'.L = L' at es
          subst es
          clear e2 e3 h0 h5 h7 hor
          go_wp2_with fail
          refine HX.out.mono ?_
          rintro e w1 ⟨rfl, r1, k1⟩
          have K1 := I.kp.trans k1 (fun g hg => .inr (I.fF g hg))
          have O1 := O.keep K1
          have q0 := O1.c0 k hlt
          have q1 := O1.c1 k hlt
          have q2 := O1.c2 k hlt
          go_wp2_with fail
          refine (HY.out _ (I.ry.keep k1 (fun g hg hf => I.dj g hf hg))).mono ?_
          rintro e w2 ⟨rfl, r2, k2⟩
          have J : FailsInv w w2 F G p q L' 0 (ret + due) (k + 1) := ⟨r1.keep k2 I.dj, r2, I.dj, K1.trans k2 (fun g hg => .inr (I.fG g hg)), I.fF, I.fG, by have := I.rt; omega⟩
          clear r1 r2 k1 k2 K1 O1
          go_wp2_with fail
          refine (retries_any _ F p _ J.rx).mono ?_
          rintro e w3 ⟨rfl, rfl⟩
          go_wp2
          go_roundw
          case rel => exact ⟨k + 1, L', 0, ret + due, by omega, by go_num, rfl, rfl, J⟩
          case measure => simp [intOf]; omega
        · have es := e3 (fun h => h0 h.2)
          have t0 : (R3 == 0) = false := by simp [h0]
          generalize s'.L = L' at es
          subst es
          clear e2 e3 h0 h5 h7 hor
          go_wp2_with fail
          refine HX.out.mono ?_
          rintro e w1 ⟨rfl, r1, k1⟩
          have K1 := I.kp.trans k1 (fun g hg => .inr (I.fF g hg))
          have O1 := O.keep K1
          have q0 := O1.c0 k hlt
          have q1 := O1.c1 k hlt
          have q2 := O1.c2 k hlt
          go_wp2_with fail
          refine (HY.out _ (I.ry.keep k1 (fun g hg hf => I.dj g hf hg))).mono ?_
          rintro e w2 ⟨rfl, r2, k2⟩
          have J : FailsInv w w2 F G p q L' due ret (k + 1) := ⟨r1.keep k2 I.dj, r2, I.dj, K1.trans k2 (fun g hg => .inr (I.fG g hg)), I.fF, I.fG, by have := I.rt; omega⟩
          clear r1 r2 k1 k2 K1 O1
          go_wp2_with fail
          refine (retries_any _ F p _ J.rx).mono ?_
          rintro e w3 ⟨rfl, rfl⟩
          go_wp2
          go_roundw
          case rel => exact ⟨k + 1, L', due, ret, by omega, by go_num, rfl, rfl, J⟩
          case measure => simp [intOf]; omega
      · have t5 : 5 ≤ bits .and .i64 (d k) 7 := by have h : ¬ bits .and .i64 (d k) 7 < 5 := h5; omega
        have es := e3 (fun h => h5 h.1)
        generalize s'.L = L' at es
        subst es
        clear e2 e3 h5 h7 hor
        go_wp2_with fail
        refine HX.out.mono ?_
        rintro e w1 ⟨rfl, r1, k1⟩
        have K1 := I.kp.trans k1 (fun g hg => .inr (I.fF g hg))
        have O1 := O.keep K1
        have q0 := O1.c0 k hlt
        have q1 := O1.c1 k hlt
        have q2 := O1.c2 k hlt
        go_wp2_with fail
        refine (HY.out _ (I.ry.keep k1 (fun g hg hf => I.dj g hf hg))).mono ?_
        rintro e w2 ⟨rfl, r2, k2⟩
        have J : FailsInv w w2 F G p q L' due ret (k + 1) := ⟨r1.keep k2 I.dj, r2, I.dj, K1.trans k2 (fun g hg => .inr (I.fG g hg)), I.fF, I.fG, by have := I.rt; omega⟩
        clear r1 r2 k1 k2 K1 O1
        go_wp2_with fail
        refine (retries_any _ F p _ J.rx).mono ?_
        rintro e w3 ⟨rfl, rfl⟩
        go_wp2
        go_roundw
        case rel => exact ⟨k + 1, L', due, ret, by omega, by go_num, rfl, rfl, J⟩
        case measure => simp [intOf]; omega
end Go.Proofs.Ytfhnlkbmkfjpnaa
