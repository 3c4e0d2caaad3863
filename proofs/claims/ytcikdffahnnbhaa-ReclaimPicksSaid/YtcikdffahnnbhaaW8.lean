/- The walk of Pick. -/
import Derived.Test.YtcikdffahnnbhaaW7
import Derived.Deep.LoopGhost
namespace Go.Proofs.Ytcikdffahnnbhaa
open Go.RowKit

def Ck.passN (s : Ck) : Nat → Ck
  | 0 => s
  | k + 1 => (s.passN k).pass
/-- How many frames the hand passes until it stands at frame f. -/
def Ck.dist (s : Ck) (f : Nat) : Nat := (f + s.L.length - s.h) % s.L.length
/-- The state before the hand goes to the victim: a marked one lets it pass all frames first. -/
def Ck.round (s : Ck) (f : Nat) : Ck := if (s.L.getD f fr0).m then s.passN s.L.length else s
def Ck.take (s : Ck) (f : Nat) : Ck := (s.passN (s.dist f)).pass
def Ck.picked (s : Ck) : Ck := if s.victim.2 then (s.round s.victim.1.toNat).take s.victim.1.toNat else s
def Ck.pickF (s : Ck) : Int := if s.victim.2 then s.victim.1 else 0
theorem pass_len (s : Ck) : s.pass.L.length = s.L.length := by unfold Ck.pass; split <;> simp [L1_len]
theorem passN_len (s : Ck) (k : Nat) : (s.passN k).L.length = s.L.length := by
  induction k with
  | zero => rfl
  | succ k ih => show (s.passN k).pass.L.length = _; rw [pass_len, ih]
theorem pass_h {s : Ck} (h : s.h < s.L.length) : s.pass.h = (s.h + 1) % s.L.length := by
  unfold Ck.pass
  split
  · rename_i h1; rw [Nat.mod_eq_of_lt h1]
  · rename_i h1
    have : s.h + 1 = s.L.length := by omega
    rw [this, Nat.mod_self]
theorem passN_h {s : Ck} (h : s.h < s.L.length) (k : Nat) : (s.passN k).h = (s.h + k) % s.L.length := by
  induction k with
  | zero => simp [Ck.passN, Nat.mod_eq_of_lt h]
  | succ k ih =>
    have hl : (s.passN k).h < (s.passN k).L.length := by rw [ih, passN_len]; exact Nat.mod_lt _ (by omega)
    show (s.passN k).pass.h = _
    rw [pass_h hl, passN_len, ih, Nat.mod_add_mod, Nat.add_assoc]
theorem dist_lt {s : Ck} (h : s.h < s.L.length) (f : Nat) : s.dist f < s.L.length := Nat.mod_lt _ (by omega)
theorem dist_at {s : Ck} {f : Nat} (h : s.h < s.L.length) (hf : f < s.L.length) : (s.h + s.dist f) % s.L.length = f := by
  unfold Ck.dist
  rw [Nat.add_mod_mod, show s.h + (f + s.L.length - s.h) = f + s.L.length by omega, Nat.add_mod_right, Nat.mod_eq_of_lt hf]
theorem dist_ne {s : Ck} {f k : Nat} (h : s.h < s.L.length) (hf : f < s.L.length) (hk : k < s.dist f) : (s.h + k) % s.L.length ≠ f := by
  intro e
  have h1 := dist_at h hf
  have h2 := dist_lt h f
  rw [← h1] at e
  have a1 : s.h + k < 2 * s.L.length := by omega
  have a2 : s.h + s.dist f < 2 * s.L.length := by omega
  have key : ∀ x, x < 2 * s.L.length → x % s.L.length = if x < s.L.length then x else x - s.L.length := by
    intro x hx
    split
    · exact Nat.mod_eq_of_lt (by assumption)
    · rw [Nat.mod_eq_sub_mod (by omega), Nat.mod_eq_of_lt (by omega)]
  rw [key _ a1, key _ a2] at e
  split at e <;> split at e <;> omega

theorem Ck.victim_lt {s : Ck} (h : 0 < s.L.length) (hv : s.victim.2 = true) : ∃ f : Nat, s.victim.1 = f ∧ f < s.L.length := by
  obtain ⟨⟨v1, v2⟩, v3, v4⟩ := Ck.vst_lt h s.L.length
  unfold Ck.victim at hv ⊢
  split at hv
  · rename_i i hi
    exact ⟨s.at i, rfl, Ck.at_lt h i⟩
  · split at hv
    · rename_i h1
      rw [if_pos h1]
      exact ⟨(s.vst s.L.length).1.toNat, by simp only []; omega, by omega⟩
    · rename_i h1
      rw [if_neg h1]
      simp only [decide_eq_true_eq] at hv
      exact ⟨(s.vst s.L.length).2.toNat, by simp only []; omega, by omega⟩

set_option maxRecDepth 100000 in
set_option maxHeartbeats 3200000 in
theorem pick_any (w : World) (F : List Nat) (p : Nat) (s : Ck) (h : CkRep w F p s) :
    Calls Try.prog 10 #[.pointer (some ⟨p, 0, none⟩)] w fun e w' => e = .returned (.tuple #[.int .i64 s.pickF, .bool s.victim.2]) ∧ CkRep w' F p s.picked ∧ Keeps F w w' := by
  have hv := victim_any w F p s h
  cases hb : s.victim.2 with
  | false =>
    rw [hb] at hv
    have HV := Lib.hid hv
    have H1 := Lib.hid (show s.picked = s by unfold Ck.picked; rw [hb]; rfl)
    have H2 := Lib.hid (show s.pickF = 0 by unfold Ck.pickF; rw [hb]; rfl)
    clear hv hb
    go_enter Try.func10, Try.ntmps10
    go_wp2_with fail
    refine HV.out.mono ?_
    rintro e w1 ⟨rfl, r1, k1⟩
    go_wp2
    go_ret2
    rw [H1.out, H2.out]
    exact ⟨rfl, r1, k1.mono (by simp)⟩
  | true =>
    rw [hb] at hv
    have hl0 : 0 < s.L.length := by obtain ⟨_, _, _, _, _, h⟩ := h; exact h.l0
    obtain ⟨f, hf1, hf2⟩ := Ck.victim_lt hl0 hb
    rw [hf1] at hv
    have HV := Lib.hid hv
    have H1 := Lib.hid (show s.picked = (s.round f).take f by unfold Ck.picked; rw [hb, hf1]; rfl)
    have H2 := Lib.hid (show s.pickF = f by unfold Ck.pickF; rw [hb, hf1]; rfl)
    clear hv hb hf1
    go_enter Try.func10, Try.ntmps10
    go_wp2_with fail
    refine HV.out.mono ?_
    rintro e w1 ⟨rfl, r1, k1⟩
    have K1 : Keeps F w w1 := k1.mono (by simp)
    have hr1 := r1
    obtain ⟨g, cap, bu, bn, bb, G⟩ := r1
    have c0 := G.e0
    have hh := G.hh
    have p1 := G.cellj hf2 (j := 1) (by omega) (v := .bool s.L[f].m) rfl
    have hi0 : (0 : Int) ≤ (f : Int) := by omega
    have hi1 : (f : Int) < (s.L.length : Int) := by omega
    have hl1 := G.l1
    have hget : s.L.getD f fr0 = s.L[f] := by simp [List.getD, hf2]
    clear G k1 h
    cases hm : s.L[f].m with
    | false =>
      have HR := Lib.hid (show s.round f = s by unfold Ck.round; rw [hget, hm]; rfl)
      rw [hm] at p1
      clear hm hget
      go_wp2_with fail
      · have rr : CkRep w1 F p (s.passN 0) := hr1
        have kk := K1
        have hs := hh
        have hfl := hf2
        clear c0 p1 hr1 K1
        go_loopg [] (s.dist f) (fun gk wr => ∃ k, gk = s.dist f - k ∧ k ≤ s.dist f ∧ CkRep wr F p (s.passN k) ∧ Keeps F w wr)
        case atStart => exact ⟨0, rfl, Nat.zero_le _, rr, kk⟩
        case round =>
          clear rr kk
          obtain ⟨k, rfl, hk, rr, kk⟩ := hrel
          have hH := passN_h hs k
          have hrr := Lib.hid rr
          have hkk := Lib.hid kk
          obtain ⟨g, cap, bu, bn, bb, G⟩ := rr
          have e1 := G.e1
          by_cases hkd : k < s.dist f
          · have ht : ((((s.passN k).h : Nat) : Int) != (f : Int)) = true := by
              rw [hH]; exact bne_iff_ne.2 (fun e => dist_ne hs hfl hkd (by omega))
            have hp := Lib.hid (pass_any _ F p _ hrr.out)
            clear G hH kk
            go_wp2_with fail
            refine hp.out.mono ?_
            rintro e w5 ⟨rfl, r5, k5⟩
            have K5 := hkk.out.trans k5 (fun x hx => .inl hx)
            go_wp2
            go_roundg (s.dist f - (k + 1))
            case measure => omega
            case rel => exact ⟨k + 1, rfl, by omega, r5, K5⟩
          · obtain rfl : k = s.dist f := by omega
            have ht : ((((s.passN (s.dist f)).h : Nat) : Int) != (f : Int)) = false := by
              rw [hH, dist_at hs hfl]; simp
            have hp := Lib.hid (pass_any _ F p _ hrr.out)
            clear G hH kk
            go_wp2_with fail
            refine hp.out.mono ?_
            rintro e w5 ⟨rfl, r5, k5⟩
            have K5 := hkk.out.trans k5 (fun x hx => .inl hx)
            go_wp2
            go_ret2
            rw [H1.out, H2.out, HR.out]
            exact ⟨rfl, r5, K5⟩
    | true =>
      have HR := Lib.hid (show s.round f = s.passN s.L.length by unfold Ck.round; rw [hget, hm]; rfl)
      rw [hm] at p1
      clear hm hget
      have rr0 : CkRep w1 F p (s.passN 0) := hr1
      go_wp2_with fail
      go_loopw [26] (fun i wr => ∃ k : Nat, k ≤ s.L.length ∧ i = .int .i64 k ∧ CkRep wr F p (s.passN k) ∧ Keeps F w wr) (fun i _ => s.L.length - (intOf i).toNat)
      case atStart => exact ⟨0, by omega, rfl, rr0, K1⟩
      case round =>
        clear rr0 K1 hr1 c0 p1
        obtain ⟨k, hk, rfl, rr, kk⟩ := hrel
        by_cases hlt : k < s.L.length
        · go_wp2_with fail
          refine (pass_any _ F p _ rr).mono ?_
          rintro e w5 ⟨rfl, r5, k5⟩
          have K5 := kk.trans k5 (fun x hx => .inl hx)
          go_wp2
          go_roundw
          case rel => exact ⟨k + 1, by omega, by go_num, r5, K5⟩
          case measure => simp [intOf]; omega
        · obtain rfl : k = s.L.length := by omega
          have hs : (s.passN s.L.length).h < (s.passN s.L.length).L.length := by rw [passN_h hh, passN_len]; exact Nat.mod_lt _ hl0
          have hfl : f < (s.passN s.L.length).L.length := by rw [passN_len]; exact hf2
          generalize s.passN s.L.length = s1 at *
          have rr : CkRep wr F p (s1.passN 0) := rr
          obtain ⟨w0, rfl⟩ : ∃ w0 : World, w0 = wr := ⟨_, rfl⟩
          go_wp2_with fail
          go_loopg [] (s1.dist f) (fun gk wr => ∃ k, gk = s1.dist f - k ∧ k ≤ s1.dist f ∧ CkRep wr F p (s1.passN k) ∧ Keeps F w wr)
          case atStart => exact ⟨0, rfl, Nat.zero_le _, rr, kk⟩
          case round =>
            clear rr kk
            obtain ⟨k, rfl, hk, rr, kk⟩ := hrel
            have hH := passN_h hs k
            have hrr := Lib.hid rr
            have hkk := Lib.hid kk
            obtain ⟨g, cap, bu, bn, bb, G⟩ := rr
            have e1 := G.e1
            by_cases hkd : k < s1.dist f
            · have ht : ((((s1.passN k).h : Nat) : Int) != (f : Int)) = true := by
                rw [hH]; exact bne_iff_ne.2 (fun e => dist_ne hs hfl hkd (by omega))
              have hp := Lib.hid (pass_any _ F p _ hrr.out)
              clear G hH kk
              go_wp2_with fail
              refine hp.out.mono ?_
              rintro e w5 ⟨rfl, r5, k5⟩
              have K5 := hkk.out.trans k5 (fun x hx => .inl hx)
              go_wp2
              go_roundg (s1.dist f - (k + 1))
              case measure => omega
              case rel => exact ⟨k + 1, rfl, by omega, r5, K5⟩
            · obtain rfl : k = s1.dist f := by omega
              have ht : ((((s1.passN (s1.dist f)).h : Nat) : Int) != (f : Int)) = false := by
                rw [hH, dist_at hs hfl]; simp
              have hp := Lib.hid (pass_any _ F p _ hrr.out)
              clear G hH kk
              go_wp2_with fail
              refine hp.out.mono ?_
              rintro e w5 ⟨rfl, r5, k5⟩
              have K5 := hkk.out.trans k5 (fun x hx => .inl hx)
              go_wp2
              go_ret2
              rw [H1.out, H2.out, HR.out]
              exact ⟨rfl, r5, K5⟩
end Go.Proofs.Ytcikdffahnnbhaa
