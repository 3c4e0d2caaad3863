/- SwapKeeps: the walk. -/
import Derived.Test.YtfhnlkbmkfjpnaaP2
namespace Go.Proofs.Ytfhnlkbmkfjpnaa
open Go.RowKit

theorem E0_toList : E0.toList = [] := by rw [ByteArray.toList_eq]; rfl
/-- What holds at the head of each round. -/
structure KeepsInv (w wr : World) (F : List Nat) (p hb : Nat) (s : Sw) (n k : Nat) : Prop where
  rep : SwRep wr F p s
  hv : wr.ownsRow 0 9 1 (.slice (some ⟨hb, 0, none⟩) n n) n (s.L.map .string)
  kp : Keeps [] w wr
  fw : ∀ g ∈ F, w.heap.size ≤ g
  hw : w.heap.size ≤ hb
  nf : hb ∉ F
  ln : s.L.length = n
  rt : s.ret ≤ 1000 * k

theorem KeepsInv.next {w wr w1 : World} {F : List Nat} {p hb : Nat} {s s' : Sw} {n k : Nat} (h : KeepsInv w wr F p hb s n k) (hr : SwRep w1 F p s') (hk : Keeps F wr w1)
    (hL : s'.L = s.L) (hret : s'.ret ≤ s.ret + 1000) : KeepsInv w w1 F p hb s' n (k + 1) := by
  refine ⟨hr, ?_, h.kp.trans hk (fun g hg => .inr (h.fw g hg)), h.fw, h.hw, h.nf, by rw [hL]; exact h.ln, by have := h.rt; omega⟩
  rw [hL]
  exact own_keep h.hv hk (by simpa using h.nf)
theorem KeepsInv.nextSet {w wr w1 : World} {F : List Nat} {p hb : Nat} {s s' : Sw} {n k j : Nat} {x : ByteArray} (h : KeepsInv w wr F p hb s n k) (hr : SwRep w1 F p s') (hk : Keeps F wr w1)
    (hL : s'.L = s.L.set j x) (hret : s'.ret ≤ s.ret + 1000) : KeepsInv w (w1.setCell ⟨hb, j, none⟩ (.string x)) F p hb s' n (k + 1) := by
  have hk2 : Keeps [hb] w1 (w1.setCell ⟨hb, j, none⟩ (.string x)) := (Keeps.refl _ _).setCell (by simp) _
  refine ⟨hr.keep hk2 (by intro g hg h2; simp at h2; subst h2; exact h.nf hg), ?_, (h.kp.trans hk (fun g hg => .inr (h.fw g hg))).trans hk2 (by intro g hg; simp at hg; subst hg; exact .inr h.hw), h.fw, h.hw, h.nf, by rw [hL, List.length_set]; exact h.ln, by have := h.rt; omega⟩
  rw [hL, map_set]
  exact own_set (own_keep h.hv hk (by simpa using h.nf)) _ _

theorem KeepsInv.step4 {w w1 w2 : World} {F : List Nat} {p hb : Nat} {s : Sw} {n k : Nat} (h : KeepsInv w w1 F p hb s n k) (hk : Keeps [] w1 w2) : KeepsInv w w2 F p hb s n k :=
  ⟨h.rep.keep hk (by simp), own_keep h.hv hk (by simp), h.kp.trans hk (by simp), h.fw, h.hw, h.nf, h.ln, h.rt⟩

set_option maxRecDepth 100000 in
set_option maxHeartbeats 8000000 in
theorem keeps_any (w : World) (slots : Int) (A : Option Addr) (n c : Nat) (d m b : Nat → Int) (hn : n ≤ 9223372036854775807)
    (hA : 0 < n → ∃ bl off, A = some ⟨bl, off, none⟩ ∧ OpsAt w bl off n d m b) :
    Calls Try.prog 3 #[.int .i64 slots, .slice A n c] w fun e w' => e = .returned (.bool true) ∧ Keeps [] w w' := by
  by_cases g1 : 100 < n
  · go_enter Try.func3, Try.ntmps3
    go_wp2_with fail
    refine (small_any _).mono ?_
    rintro e w1 ⟨rfl, k1⟩
    go_wp2
    go_ret
    exact ⟨rfl, k1⟩
  by_cases g2 : slots < 0
  · go_enter Try.func3, Try.ntmps3
    go_wp2_with fail
    refine (small_any _).mono ?_
    rintro e w1 ⟨rfl, k1⟩
    go_wp2
    go_ret
    exact ⟨rfl, k1⟩
  by_cases g3 : 60 < slots
  · go_enter Try.func3, Try.ntmps3
    go_wp2_with fail
    refine (small_any _).mono ?_
    rintro e w1 ⟨rfl, k1⟩
    go_wp2
    go_ret
    exact ⟨rfl, k1⟩
  obtain ⟨z, rfl⟩ := Int.eq_ofNat_of_zero_le (by omega : 0 ≤ slots)
  have hz : z ≤ 60 := by omega
  obtain ⟨i0, hi, hz0, hz1, hz2⟩ := info_parts (P := Try.prog) (e := 9) (z := .string E0) (size := 1) (bytes := 16) (by kernel_rfl)
  go_enter Try.func3, Try.ntmps3
  go_wp2_with fail
  refine (small_any _).mono ?_
  rintro e w1 ⟨rfl, k1⟩
  go_wp2_with fail
  refine (new_any _ z).mono ?_
  rintro e w2 ⟨F, p, rfl, r2, k2, hF⟩
  have er : (max 0 (min (z : Int) 4096)).toNat = z := by omega
  rw [er] at r2
  clear er
  have K : Keeps [] w w2 := k1.trans k2 (by simp)
  have hF' : ∀ g ∈ F, w.heap.size ≤ g := fun g hg => Nat.le_trans k1.size (hF g hg)
  clear k1 k2 hF
  go_wp2_with (at_make; refine wpList_make_full _ rfl (.tmp 32) (.tmp 32) _ rfl 0 9 i0 (.string E0) 1 Try.underlying26 hi hz0 hz1 .i64 .i64 _ _ z rfl rfl rfl rfl (by rw [hz2]; omega) (by unfold maxLen; omega) (Nat.zero_le _) ?_)
  intro w3 ho hg
  have hr : (madeCells #[Value.string E0] z).toList = (List.replicate z E0).map Value.string := by
    rw [List.map_replicate]
    exact toList_madeCells_one _ _
  rw [hr] at ho
  have hk : Keeps [] w2 w3 := (Keeps.refl _ _).grown hg (by simp)
  have I0 : KeepsInv w w3 F p w2.heap.size ⟨List.replicate z E0, 0, 0⟩ z 0 :=
    ⟨r2.keep hk (by simp), ho, K.trans hk (by simp), hF', K.size, fun h => by have := r2.lt _ h; omega, by simp, by simp⟩
  clear hg hr ho r2 K hk hz0 hz1 hz2 hi
  generalize w2.heap.size = hb at *
  go_wp2_with fail
  go_loopw [8, 9] (fun u i wr => ∃ (k : Nat) (s : Sw), k ≤ n ∧ i = .int .i64 k ∧ u = .int .i64 (cnt s.L) ∧ KeepsInv w wr F p hb s z k) (fun _ i _ => n - (intOf i).toNat)
  case atStart => exact ⟨0, _, by omega, rfl, by simp [cnt, emp_E0, List.countP_replicate], I0⟩
  case round =>
    obtain ⟨k, s, hk, rfl, rfl, I⟩ := hrel
    clear I0
    by_cases hlt : k < n
    rotate_left
    · go_wp2
      go_ret
      exact ⟨rfl, I.kp⟩
    obtain ⟨bl, off, rfl, O⟩ := hA (by omega)
    have hret : s.ret ≤ 1000000000 := by have := I.rt; omega
    have hdo := do_any wr F p s (d k) (m k) (b k) I.rep hret (O.rb k hlt).1 (O.rb k hlt).2
    have HD := Lib.hid hdo
    have hor := opk_range (d k)
    have hm0 := (O.rm k hlt).1
    have hm1 := (O.rm k hlt).2
    have O1 := O.keep I.kp
    have q0 := O1.c0 k hlt
    have q1 := O1.c1 k hlt
    have q2 := O1.c2 k hlt
    have hcl := cnt_le s.L
    have hln0 : s.L.length ≤ z := by have := I.ln; omega
    have hln1 : z ≤ s.L.length := by have := I.ln; omega
    have hfl := first_le s.L
    clear hdo O1
    have r0d : 0 ≤ s.due ∧ s.due ≤ 1000 := by obtain ⟨_, _, h⟩ := I.rep; exact ⟨h.d0, h.d1⟩
    by_cases hv : opk (d k) = 3
    · have t3 : (bits .and .i64 (d k) 7 == 3) = true := by simp [show bits .and .i64 (d k) 7 = 3 from hv]
      have hkind : opk (d k) = 3 ∨ opk (d k) = 4 := by omega
      have KK := Lib.hid hkind
      clear hkind hv hor
      by_cases hi0 : m k < 0
      · as_aux_lemma =>
          have HS := Lib.hid (step_get_no (s := s) (b := b k) KK.out (m := m k) (by unfold hasB; simp; omega))
          go_wp2_with fail
          refine HD.out.mono ?_
          rw [HS.out]
          rintro e w1 ⟨rfl, r1, k1⟩
          have K1 := I.kp.trans k1 (fun g hg => .inr (I.fw g hg))
          have O1 := O.keep K1
          have q0 := O1.c0 k hlt
          have q1 := O1.c1 k hlt
          have q2 := O1.c2 k hlt
          have hE0 := E0_toList
          have J := I.next r1 k1 rfl (by have := r0d; simp; omega)
          go_wp2_with fail
          refine (used_any _ F p _ J.rep).mono ?_
          rintro e w2 ⟨rfl, rfl⟩
          go_wp2
          go_roundw
          case rel => exact ⟨k + 1, s, by omega, by go_num, rfl, J⟩
          case measure => simp [intOf]; omega
      by_cases hi1 : z ≤ m k
      · as_aux_lemma =>
          have HS := Lib.hid (step_get_no (s := s) (b := b k) KK.out (m := m k) (by unfold hasB; simp; omega))
          go_wp2_with fail
          refine HD.out.mono ?_
          rw [HS.out]
          rintro e w1 ⟨rfl, r1, k1⟩
          have K1 := I.kp.trans k1 (fun g hg => .inr (I.fw g hg))
          have O1 := O.keep K1
          have q0 := O1.c0 k hlt
          have q1 := O1.c1 k hlt
          have q2 := O1.c2 k hlt
          have hE0 := E0_toList
          have J := I.next r1 k1 rfl (by have := r0d; simp; omega)
          go_wp2_with fail
          refine (used_any _ F p _ J.rep).mono ?_
          rintro e w2 ⟨rfl, rfl⟩
          go_wp2
          go_roundw
          case rel => exact ⟨k + 1, s, by omega, by go_num, rfl, J⟩
          case measure => simp [intOf]; omega
      obtain ⟨j, hj⟩ := Int.eq_ofNat_of_zero_le (by omega : 0 ≤ m k)
      have hjl : j < s.L.length := by omega
      have HJ := Lib.hid hj
      clear hj hi0 hi1
      cases hx : s.L[j].toList.isEmpty
      · as_aux_lemma =>
          have hst : s.step (d k) (m k) (b k) = ((s.L[j], 0, 0), ⟨s.L, 0, s.ret + s.due⟩) := by
            have h1 := step_get_yes (s := s) (b := b k) KK.out (m := m k) (by unfold hasB; rw [HJ.out]; have : emp s.L[j] = false := hx; simp [List.getD, hjl, this])
            rw [h1, HJ.out]
            simp [List.getD, hjl]
          have HS := Lib.hid hst
          clear hst
          go_wp2_with fail
          refine HD.out.mono ?_
          rw [HS.out]
          rintro e w1 ⟨rfl, r1, k1⟩
          have K1 := I.kp.trans k1 (fun g hg => .inr (I.fw g hg))
          have O1 := O.keep K1
          have q0 := O1.c0 k hlt
          have q1 := O1.c1 k hlt
          have q2 := O1.c2 k hlt
          have hE0 := E0_toList
          have J := I.next r1 k1 rfl (by have := r0d; simp; omega)
          rw [HJ.out] at q1
          have cj : w1.cell? ⟨hb, j, none⟩ = some (.string s.L[j]) := own_cell (own_keep I.hv k1 (by simpa using I.nf)) (by simp [hjl])
          go_wp2_with fail
          refine (used_any _ F p _ J.rep).mono ?_
          rintro e w2 ⟨rfl, rfl⟩
          go_wp2
          go_roundw
          case rel => exact ⟨k + 1, ⟨s.L, 0, s.ret + s.due⟩, by omega, by go_num, rfl, J⟩
          case measure => simp [intOf]; omega
      · as_aux_lemma =>
          have HS := Lib.hid (step_get_no (s := s) (b := b k) KK.out (m := m k) (by unfold hasB; rw [HJ.out]; have : emp s.L[j] = true := hx; simp [List.getD, hjl, this]))
          go_wp2_with fail
          refine HD.out.mono ?_
          rw [HS.out]
          rintro e w1 ⟨rfl, r1, k1⟩
          have K1 := I.kp.trans k1 (fun g hg => .inr (I.fw g hg))
          have O1 := O.keep K1
          have q0 := O1.c0 k hlt
          have q1 := O1.c1 k hlt
          have q2 := O1.c2 k hlt
          have hE0 := E0_toList
          have J := I.next r1 k1 rfl (by have := r0d; simp; omega)
          rw [HJ.out] at q1
          have cj : w1.cell? ⟨hb, j, none⟩ = some (.string s.L[j]) := own_cell (own_keep I.hv k1 (by simpa using I.nf)) (by simp [hjl])
          go_wp2_with fail
          refine (used_any _ F p _ J.rep).mono ?_
          rintro e w2 ⟨rfl, rfl⟩
          go_wp2
          go_roundw
          case rel => exact ⟨k + 1, s, by omega, by go_num, rfl, J⟩
          case measure => simp [intOf]; omega
    by_cases hv : opk (d k) = 4
    · have t3 : (bits .and .i64 (d k) 7 == 3) = false := by simp [show bits .and .i64 (d k) 7 = 4 from hv]
      have t4 : (bits .and .i64 (d k) 7 == 4) = true := by simp [show bits .and .i64 (d k) 7 = 4 from hv]
      have hkind : opk (d k) = 3 ∨ opk (d k) = 4 := by omega
      have KK := Lib.hid hkind
      clear hkind hv hor
      by_cases hi0 : m k < 0
      · as_aux_lemma =>
          have HS := Lib.hid (step_get_no (s := s) (b := b k) KK.out (m := m k) (by unfold hasB; simp; omega))
          go_wp2_with fail
          refine HD.out.mono ?_
          rw [HS.out]
          rintro e w1 ⟨rfl, r1, k1⟩
          have K1 := I.kp.trans k1 (fun g hg => .inr (I.fw g hg))
          have O1 := O.keep K1
          have q0 := O1.c0 k hlt
          have q1 := O1.c1 k hlt
          have q2 := O1.c2 k hlt
          have hE0 := E0_toList
          have J := I.next r1 k1 rfl (by have := r0d; simp; omega)
          go_wp2_with fail
          refine (used_any _ F p _ J.rep).mono ?_
          rintro e w2 ⟨rfl, rfl⟩
          go_wp2
          go_roundw
          case rel => exact ⟨k + 1, s, by omega, by go_num, rfl, J⟩
          case measure => simp [intOf]; omega
      by_cases hi1 : z ≤ m k
      · as_aux_lemma =>
          have HS := Lib.hid (step_get_no (s := s) (b := b k) KK.out (m := m k) (by unfold hasB; simp; omega))
          go_wp2_with fail
          refine HD.out.mono ?_
          rw [HS.out]
          rintro e w1 ⟨rfl, r1, k1⟩
          have K1 := I.kp.trans k1 (fun g hg => .inr (I.fw g hg))
          have O1 := O.keep K1
          have q0 := O1.c0 k hlt
          have q1 := O1.c1 k hlt
          have q2 := O1.c2 k hlt
          have hE0 := E0_toList
          have J := I.next r1 k1 rfl (by have := r0d; simp; omega)
          go_wp2_with fail
          refine (used_any _ F p _ J.rep).mono ?_
          rintro e w2 ⟨rfl, rfl⟩
          go_wp2
          go_roundw
          case rel => exact ⟨k + 1, s, by omega, by go_num, rfl, J⟩
          case measure => simp [intOf]; omega
      obtain ⟨j, hj⟩ := Int.eq_ofNat_of_zero_le (by omega : 0 ≤ m k)
      have hjl : j < s.L.length := by omega
      have HJ := Lib.hid hj
      clear hj hi0 hi1
      cases hx : s.L[j].toList.isEmpty
      · as_aux_lemma =>
          have hst : s.step (d k) (m k) (b k) = ((s.L[j], 0, 0), ⟨s.L, 0, s.ret + s.due⟩) := by
            have h1 := step_get_yes (s := s) (b := b k) KK.out (m := m k) (by unfold hasB; rw [HJ.out]; have : emp s.L[j] = false := hx; simp [List.getD, hjl, this])
            rw [h1, HJ.out]
            simp [List.getD, hjl]
          have HS := Lib.hid hst
          clear hst
          go_wp2_with fail
          refine HD.out.mono ?_
          rw [HS.out]
          rintro e w1 ⟨rfl, r1, k1⟩
          have K1 := I.kp.trans k1 (fun g hg => .inr (I.fw g hg))
          have O1 := O.keep K1
          have q0 := O1.c0 k hlt
          have q1 := O1.c1 k hlt
          have q2 := O1.c2 k hlt
          have hE0 := E0_toList
          have J := I.next r1 k1 rfl (by have := r0d; simp; omega)
          rw [HJ.out] at q1
          have cj : w1.cell? ⟨hb, j, none⟩ = some (.string s.L[j]) := own_cell (own_keep I.hv k1 (by simpa using I.nf)) (by simp [hjl])
          go_wp2_with fail
          refine (used_any _ F p _ J.rep).mono ?_
          rintro e w2 ⟨rfl, rfl⟩
          go_wp2
          go_roundw
          case rel => exact ⟨k + 1, ⟨s.L, 0, s.ret + s.due⟩, by omega, by go_num, rfl, J⟩
          case measure => simp [intOf]; omega
      · as_aux_lemma =>
          have HS := Lib.hid (step_get_no (s := s) (b := b k) KK.out (m := m k) (by unfold hasB; rw [HJ.out]; have : emp s.L[j] = true := hx; simp [List.getD, hjl, this]))
          go_wp2_with fail
          refine HD.out.mono ?_
          rw [HS.out]
          rintro e w1 ⟨rfl, r1, k1⟩
          have K1 := I.kp.trans k1 (fun g hg => .inr (I.fw g hg))
          have O1 := O.keep K1
          have q0 := O1.c0 k hlt
          have q1 := O1.c1 k hlt
          have q2 := O1.c2 k hlt
          have hE0 := E0_toList
          have J := I.next r1 k1 rfl (by have := r0d; simp; omega)
          rw [HJ.out] at q1
          have cj : w1.cell? ⟨hb, j, none⟩ = some (.string s.L[j]) := own_cell (own_keep I.hv k1 (by simpa using I.nf)) (by simp [hjl])
          go_wp2_with fail
          refine (used_any _ F p _ J.rep).mono ?_
          rintro e w2 ⟨rfl, rfl⟩
          go_wp2
          go_roundw
          case rel => exact ⟨k + 1, s, by omega, by go_num, rfl, J⟩
          case measure => simp [intOf]; omega
    by_cases hv : opk (d k) = 5
    · have t3 : (bits .and .i64 (d k) 7 == 3) = false := by simp [show bits .and .i64 (d k) 7 = 5 from hv]
      have t4 : (bits .and .i64 (d k) 7 == 4) = false := by simp [show bits .and .i64 (d k) 7 = 5 from hv]
      have t5 : (bits .and .i64 (d k) 7 == 5) = true := by simp [show bits .and .i64 (d k) 7 = 5 from hv]
      have hkind : opk (d k) = 5 ∨ opk (d k) = 6 := by omega
      have KK := Lib.hid hkind
      clear hkind hv hor
      by_cases hi0 : m k < 0
      · as_aux_lemma =>
          have HS := Lib.hid (step_free_no (s := s) (b := b k) KK.out (m := m k) (by unfold hasB; simp; omega))
          go_wp2_with fail
          refine HD.out.mono ?_
          rw [HS.out]
          rintro e w1 ⟨rfl, r1, k1⟩
          have K1 := I.kp.trans k1 (fun g hg => .inr (I.fw g hg))
          have O1 := O.keep K1
          have q0 := O1.c0 k hlt
          have q1 := O1.c1 k hlt
          have q2 := O1.c2 k hlt
          have hE0 := E0_toList
          have J := I.next r1 k1 rfl (by have := r0d; simp; omega)
          go_wp2_with fail
          refine (used_any _ F p _ J.rep).mono ?_
          rintro e w2 ⟨rfl, rfl⟩
          go_wp2
          go_roundw
          case rel => exact ⟨k + 1, s, by omega, by go_num, rfl, J⟩
          case measure => simp [intOf]; omega
      by_cases hi1 : z ≤ m k
      · as_aux_lemma =>
          have HS := Lib.hid (step_free_no (s := s) (b := b k) KK.out (m := m k) (by unfold hasB; simp; omega))
          go_wp2_with fail
          refine HD.out.mono ?_
          rw [HS.out]
          rintro e w1 ⟨rfl, r1, k1⟩
          have K1 := I.kp.trans k1 (fun g hg => .inr (I.fw g hg))
          have O1 := O.keep K1
          have q0 := O1.c0 k hlt
          have q1 := O1.c1 k hlt
          have q2 := O1.c2 k hlt
          have hE0 := E0_toList
          have J := I.next r1 k1 rfl (by have := r0d; simp; omega)
          go_wp2_with fail
          refine (used_any _ F p _ J.rep).mono ?_
          rintro e w2 ⟨rfl, rfl⟩
          go_wp2
          go_roundw
          case rel => exact ⟨k + 1, s, by omega, by go_num, rfl, J⟩
          case measure => simp [intOf]; omega
      obtain ⟨j, hj⟩ := Int.eq_ofNat_of_zero_le (by omega : 0 ≤ m k)
      have hjl : j < s.L.length := by omega
      have HJ := Lib.hid hj
      clear hj hi0 hi1
      cases hx : s.L[j].toList.isEmpty
      · as_aux_lemma =>
          have he : emp s.L[j] = false := hx
          have hst : s.step (d k) (m k) (b k) = ((E0, 0, 0), ⟨s.L.set j E0, s.due, s.ret⟩) := by
            have h1 := step_free_yes (s := s) (b := b k) KK.out (m := m k) (by unfold hasB; rw [HJ.out]; simp [List.getD, hjl, he])
            rw [h1, HJ.out]
            rfl
          have HS := Lib.hid hst
          clear hst
          have hcc : cnt (s.L.set j E0) + 1 = cnt s.L := by
            have := cnt_set hjl E0
            rw [he, emp_E0] at this
            simpa using this
          have HC := Lib.hid hcc
          have hc1 : 1 ≤ cnt s.L := by omega
          clear hcc he
          go_wp2_with fail
          refine HD.out.mono ?_
          rw [HS.out]
          rintro e w1 ⟨rfl, r1, k1⟩
          have K1 := I.kp.trans k1 (fun g hg => .inr (I.fw g hg))
          have O1 := O.keep K1
          have q0 := O1.c0 k hlt
          have q1 := O1.c1 k hlt
          have q2 := O1.c2 k hlt
          have hE0 := E0_toList
          rw [HJ.out] at q1
          have cj : w1.cell? ⟨hb, j, none⟩ = some (.string s.L[j]) := own_cell (own_keep I.hv k1 (by simpa using I.nf)) (by simp [hjl])
          have fj : w1.frozen? ⟨hb, j, none⟩ = false := own_free (own_keep I.hv k1 (by simpa using I.nf)) j
          have J2 := I.nextSet (j := j) (x := E0) r1 k1 rfl (by show s.ret ≤ s.ret + 1000; omega)
          go_wp2_with fail
          refine (used_any _ F p _ J2.rep).mono ?_
          rw [show (cnt (s.L.set j E0) : Int) = (cnt s.L : Int) - 1 from by have := HC.out; omega]
          rintro e w2 ⟨rfl, rfl⟩
          go_wp2
          go_roundw
          case rel => exact ⟨k + 1, ⟨s.L.set j E0, s.due, s.ret⟩, by omega, by go_num, by rw [show (cnt (s.L.set j E0) : Int) = (cnt s.L : Int) - 1 from by have := HC.out; omega], J2⟩
          case measure => simp [intOf]; omega
      · as_aux_lemma =>
          have he : emp s.L[j] = true := hx
          have HS := Lib.hid (step_free_no (s := s) (b := b k) KK.out (m := m k) (by unfold hasB; rw [HJ.out]; simp [List.getD, hjl, he]))
          go_wp2_with fail
          refine HD.out.mono ?_
          rw [HS.out]
          rintro e w1 ⟨rfl, r1, k1⟩
          have K1 := I.kp.trans k1 (fun g hg => .inr (I.fw g hg))
          have O1 := O.keep K1
          have q0 := O1.c0 k hlt
          have q1 := O1.c1 k hlt
          have q2 := O1.c2 k hlt
          have hE0 := E0_toList
          have J := I.next r1 k1 rfl (by have := r0d; simp; omega)
          rw [HJ.out] at q1
          have cj : w1.cell? ⟨hb, j, none⟩ = some (.string s.L[j]) := own_cell (own_keep I.hv k1 (by simpa using I.nf)) (by simp [hjl])
          have fj : w1.frozen? ⟨hb, j, none⟩ = false := own_free J.hv j
          have J2 := I.nextSet (j := j) (x := E0) r1 k1 (set_same hjl he).symm (by show s.ret ≤ s.ret + 1000; omega)
          clear he
          go_wp2_with fail
          refine (used_any _ F p _ J2.rep).mono ?_
          rintro e w2 ⟨rfl, rfl⟩
          go_wp2
          go_roundw
          case rel => exact ⟨k + 1, s, by omega, by go_num, rfl, J2⟩
          case measure => simp [intOf]; omega
    by_cases hv : opk (d k) = 6
    · have t3 : (bits .and .i64 (d k) 7 == 3) = false := by simp [show bits .and .i64 (d k) 7 = 6 from hv]
      have t4 : (bits .and .i64 (d k) 7 == 4) = false := by simp [show bits .and .i64 (d k) 7 = 6 from hv]
      have t5 : (bits .and .i64 (d k) 7 == 5) = false := by simp [show bits .and .i64 (d k) 7 = 6 from hv]
      have t6 : (bits .and .i64 (d k) 7 == 6) = true := by simp [show bits .and .i64 (d k) 7 = 6 from hv]
      have hkind : opk (d k) = 5 ∨ opk (d k) = 6 := by omega
      have KK := Lib.hid hkind
      clear hkind hv hor
      by_cases hi0 : m k < 0
      · as_aux_lemma =>
          have HS := Lib.hid (step_free_no (s := s) (b := b k) KK.out (m := m k) (by unfold hasB; simp; omega))
          go_wp2_with fail
          refine HD.out.mono ?_
          rw [HS.out]
          rintro e w1 ⟨rfl, r1, k1⟩
          have K1 := I.kp.trans k1 (fun g hg => .inr (I.fw g hg))
          have O1 := O.keep K1
          have q0 := O1.c0 k hlt
          have q1 := O1.c1 k hlt
          have q2 := O1.c2 k hlt
          have hE0 := E0_toList
          have J := I.next r1 k1 rfl (by have := r0d; simp; omega)
          go_wp2_with fail
          refine (used_any _ F p _ J.rep).mono ?_
          rintro e w2 ⟨rfl, rfl⟩
          go_wp2
          go_roundw
          case rel => exact ⟨k + 1, s, by omega, by go_num, rfl, J⟩
          case measure => simp [intOf]; omega
      by_cases hi1 : z ≤ m k
      · as_aux_lemma =>
          have HS := Lib.hid (step_free_no (s := s) (b := b k) KK.out (m := m k) (by unfold hasB; simp; omega))
          go_wp2_with fail
          refine HD.out.mono ?_
          rw [HS.out]
          rintro e w1 ⟨rfl, r1, k1⟩
          have K1 := I.kp.trans k1 (fun g hg => .inr (I.fw g hg))
          have O1 := O.keep K1
          have q0 := O1.c0 k hlt
          have q1 := O1.c1 k hlt
          have q2 := O1.c2 k hlt
          have hE0 := E0_toList
          have J := I.next r1 k1 rfl (by have := r0d; simp; omega)
          go_wp2_with fail
          refine (used_any _ F p _ J.rep).mono ?_
          rintro e w2 ⟨rfl, rfl⟩
          go_wp2
          go_roundw
          case rel => exact ⟨k + 1, s, by omega, by go_num, rfl, J⟩
          case measure => simp [intOf]; omega
      obtain ⟨j, hj⟩ := Int.eq_ofNat_of_zero_le (by omega : 0 ≤ m k)
      have hjl : j < s.L.length := by omega
      have HJ := Lib.hid hj
      clear hj hi0 hi1
      cases hx : s.L[j].toList.isEmpty
      · as_aux_lemma =>
          have he : emp s.L[j] = false := hx
          have hst : s.step (d k) (m k) (b k) = ((E0, 0, 0), ⟨s.L.set j E0, s.due, s.ret⟩) := by
            have h1 := step_free_yes (s := s) (b := b k) KK.out (m := m k) (by unfold hasB; rw [HJ.out]; simp [List.getD, hjl, he])
            rw [h1, HJ.out]
            rfl
          have HS := Lib.hid hst
          clear hst
          have hcc : cnt (s.L.set j E0) + 1 = cnt s.L := by
            have := cnt_set hjl E0
            rw [he, emp_E0] at this
            simpa using this
          have HC := Lib.hid hcc
          have hc1 : 1 ≤ cnt s.L := by omega
          clear hcc he
          go_wp2_with fail
          refine HD.out.mono ?_
          rw [HS.out]
          rintro e w1 ⟨rfl, r1, k1⟩
          have K1 := I.kp.trans k1 (fun g hg => .inr (I.fw g hg))
          have O1 := O.keep K1
          have q0 := O1.c0 k hlt
          have q1 := O1.c1 k hlt
          have q2 := O1.c2 k hlt
          have hE0 := E0_toList
          rw [HJ.out] at q1
          have cj : w1.cell? ⟨hb, j, none⟩ = some (.string s.L[j]) := own_cell (own_keep I.hv k1 (by simpa using I.nf)) (by simp [hjl])
          have fj : w1.frozen? ⟨hb, j, none⟩ = false := own_free (own_keep I.hv k1 (by simpa using I.nf)) j
          have J2 := I.nextSet (j := j) (x := E0) r1 k1 rfl (by show s.ret ≤ s.ret + 1000; omega)
          go_wp2_with fail
          refine (used_any _ F p _ J2.rep).mono ?_
          rw [show (cnt (s.L.set j E0) : Int) = (cnt s.L : Int) - 1 from by have := HC.out; omega]
          rintro e w2 ⟨rfl, rfl⟩
          go_wp2
          go_roundw
          case rel => exact ⟨k + 1, ⟨s.L.set j E0, s.due, s.ret⟩, by omega, by go_num, by rw [show (cnt (s.L.set j E0) : Int) = (cnt s.L : Int) - 1 from by have := HC.out; omega], J2⟩
          case measure => simp [intOf]; omega
      · as_aux_lemma =>
          have he : emp s.L[j] = true := hx
          have HS := Lib.hid (step_free_no (s := s) (b := b k) KK.out (m := m k) (by unfold hasB; rw [HJ.out]; simp [List.getD, hjl, he]))
          go_wp2_with fail
          refine HD.out.mono ?_
          rw [HS.out]
          rintro e w1 ⟨rfl, r1, k1⟩
          have K1 := I.kp.trans k1 (fun g hg => .inr (I.fw g hg))
          have O1 := O.keep K1
          have q0 := O1.c0 k hlt
          have q1 := O1.c1 k hlt
          have q2 := O1.c2 k hlt
          have hE0 := E0_toList
          have J := I.next r1 k1 rfl (by have := r0d; simp; omega)
          rw [HJ.out] at q1
          have cj : w1.cell? ⟨hb, j, none⟩ = some (.string s.L[j]) := own_cell (own_keep I.hv k1 (by simpa using I.nf)) (by simp [hjl])
          have fj : w1.frozen? ⟨hb, j, none⟩ = false := own_free J.hv j
          have J2 := I.nextSet (j := j) (x := E0) r1 k1 (set_same hjl he).symm (by show s.ret ≤ s.ret + 1000; omega)
          clear he
          go_wp2_with fail
          refine (used_any _ F p _ J2.rep).mono ?_
          rintro e w2 ⟨rfl, rfl⟩
          go_wp2
          go_roundw
          case rel => exact ⟨k + 1, s, by omega, by go_num, rfl, J2⟩
          case measure => simp [intOf]; omega
    by_cases hv : opk (d k) = 7
    · have t3 : (bits .and .i64 (d k) 7 == 3) = false := by simp [show bits .and .i64 (d k) 7 = 7 from hv]
      have t4 : (bits .and .i64 (d k) 7 == 4) = false := by simp [show bits .and .i64 (d k) 7 = 7 from hv]
      have t5 : (bits .and .i64 (d k) 7 == 5) = false := by simp [show bits .and .i64 (d k) 7 = 7 from hv]
      have t6 : (bits .and .i64 (d k) 7 == 6) = false := by simp [show bits .and .i64 (d k) 7 = 7 from hv]
      have t7 : (bits .and .i64 (d k) 7 == 7) = true := by simp [show bits .and .i64 (d k) 7 = 7 from hv]
      have hkind : opk (d k) = 7 := by omega
      have KK := Lib.hid hkind
      clear hkind hv hor
      have HS := Lib.hid (step_fail (s := s) (m := m k) (b := b k) KK.out)
      as_aux_lemma =>
        go_wp2_with fail
        refine HD.out.mono ?_
        rw [HS.out]
        rintro e w1 ⟨rfl, r1, k1⟩
        have K1 := I.kp.trans k1 (fun g hg => .inr (I.fw g hg))
        have O1 := O.keep K1
        have q0 := O1.c0 k hlt
        have q1 := O1.c1 k hlt
        have q2 := O1.c2 k hlt
        have hE0 := E0_toList
        have J := I.next r1 k1 rfl (by have := r0d; simp; omega)
        go_wp2_with fail
        refine (used_any _ F p _ J.rep).mono ?_
        rintro e w2 ⟨rfl, rfl⟩
        go_wp2
        go_roundw
        case rel => exact ⟨k + 1, ⟨s.L, clampF (m k), s.ret⟩, by omega, by go_num, rfl, J⟩
        case measure => simp [intOf]; omega
    by_cases hv : opk (d k) = 0
    · have t3 : (bits .and .i64 (d k) 7 == 3) = false := by simp [show bits .and .i64 (d k) 7 = 0 from hv]
      have t4 : (bits .and .i64 (d k) 7 == 4) = false := by simp [show bits .and .i64 (d k) 7 = 0 from hv]
      have t5 : (bits .and .i64 (d k) 7 == 5) = false := by simp [show bits .and .i64 (d k) 7 = 0 from hv]
      have t6 : (bits .and .i64 (d k) 7 == 6) = false := by simp [show bits .and .i64 (d k) 7 = 0 from hv]
      have t7 : (bits .and .i64 (d k) 7 == 7) = false := by simp [show bits .and .i64 (d k) 7 = 0 from hv]
      have t0 : (bits .and .i64 (d k) 7 == 0) = true := by simp [show bits .and .i64 (d k) 7 = 0 from hv]
      have hkind : opk (d k) < 3 := by omega
      have KK := Lib.hid hkind
      have hne : opk (d k) ≠ 2 := by omega
      clear hkind hv hor
      by_cases hfr : first s.L < s.L.length
      · by_cases hsz : (bodyS (d k) (m k) (b k)).size = 64
        · as_aux_lemma =>
            have HS := Lib.hid (step_put_yes (s := s) KK.out hsz hfr)
            have hs1 : 64 ≤ (bodyS (d k) (m k) (b k)).size := by omega
            have hs2 : (bodyS (d k) (m k) (b k)).size ≤ 64 := by omega
            have hcc : cnt (s.L.set (first s.L) (bodyS (d k) (m k) (b k))) = cnt s.L + 1 := by
              have := cnt_set hfr (bodyS (d k) (m k) (b k))
              rw [first_emp hfr, emp_size hsz] at this
              simpa using this
            have HC := Lib.hid hcc
            clear hcc hsz
            go_wp2_with fail
            refine HD.out.mono ?_
            rw [HS.out]
            rintro e w1 ⟨rfl, r1, k1⟩
            have K1 := I.kp.trans k1 (fun g hg => .inr (I.fw g hg))
            have O1 := O.keep K1
            have q0 := O1.c0 k hlt
            have q1 := O1.c1 k hlt
            have q2 := O1.c2 k hlt
            have hE0 := E0_toList
            go_wp2_with fail
            go_loop [14] (fun x => ∃ j : Nat, j ≤ z ∧ j ≤ first s.L ∧ x = .int .i64 j) (fun x => z - (intOf x).toNat)
            case atStart => exact ⟨0, by omega, by omega, rfl⟩
            case round =>
              obtain ⟨j, hjz, hjf, rfl⟩ := hrel
              by_cases hjl : j < s.L.length
              · have cj : w1.cell? ⟨hb, j, none⟩ = some (.string s.L[j]) := own_cell (own_keep I.hv k1 (by simpa using I.nf)) (by simp [hjl])
                cases hx : s.L[j].toList.isEmpty
                · have hj1 : j + 1 ≤ first s.L := idx_gt hjl hjf (by rw [emp_iff]; exact hx)
                  go_wp2
                  go_round
                  case rel => exact ⟨j + 1, by omega, by omega, by go_num⟩
                  case measure => simp [intOf]; omega
                · have hjx : first s.L = j := idx_eq hjl hjf (by rw [emp_iff]; exact hx)
                  rw [hjx] at r1 HC ⊢
                  have HX := Lib.hid hjx
                  clear hjx

                  go_wp2_with fail
                  refine (body_any _ (d k) (m k) (b k) (O.rb k hlt).1 (O.rb k hlt).2).mono ?_
                  rintro e w4 ⟨rfl, k4⟩
                  have O4 := O1.keep k4
                  have q0 := O4.c0 k hlt
                  have q1 := O4.c1 k hlt
                  have q2 := O4.c2 k hlt
                  go_wp2_with fail
                  refine (body_any _ (d k) (m k) (b k) (O.rb k hlt).1 (O.rb k hlt).2).mono ?_
                  rintro e w5 ⟨rfl, k5⟩
                  have k15 : Keeps F wr w5 := (k1.trans k4 (by simp)).trans k5 (by simp)
                  have r5 := (r1.keep k4 (by simp)).keep k5 (by simp)
                  have o5 := own_keep I.hv k15 (by simpa using I.nf)
                  have c5 : w5.cell? ⟨hb, j, none⟩ = some (.string s.L[j]) := own_cell o5 (by simp [hjl])
                  have f5 := own_free o5 j
                  have O5 := O4.keep k5
                  have q0 := O5.c0 k hlt
                  have q1 := O5.c1 k hlt
                  have J2 := I.nextSet (j := j) (x := bodyS (d k) (m k) (b k)) r5 k15 rfl (by show s.ret + s.due ≤ s.ret + 1000; omega)
                  clear r1 r5 k1 k4 k5 k15 o5
                  go_wp2_with fail
                  refine (used_any _ F p _ J2.rep).mono ?_
                  rw [show (cnt (s.L.set j (bodyS (d k) (m k) (b k))) : Int) = (cnt s.L : Int) + 1 from by have := HC.out; omega]
                  rintro e w2 ⟨rfl, rfl⟩
                  go_wp2
                  go_roundw
                  case rel => exact ⟨k + 1, ⟨s.L.set j (bodyS (d k) (m k) (b k)), 0, s.ret + s.due⟩, by omega, by go_num, by rw [show (cnt (s.L.set j (bodyS (d k) (m k) (b k))) : Int) = (cnt s.L : Int) + 1 from by have := HC.out; omega], J2⟩
                  case measure => simp [intOf]; omega
              · have hjx : first s.L = s.L.length := by omega
                exfalso
                omega
        · exact absurd (body_size' hne) hsz
      · as_aux_lemma =>
          have HS := Lib.hid (step_put_no (s := s) (b := b k) (m := m k) KK.out (.inr (by omega)))
          go_wp2_with fail
          refine HD.out.mono ?_
          rw [HS.out]
          rintro e w1 ⟨rfl, r1, k1⟩
          have K1 := I.kp.trans k1 (fun g hg => .inr (I.fw g hg))
          have O1 := O.keep K1
          have q0 := O1.c0 k hlt
          have q1 := O1.c1 k hlt
          have q2 := O1.c2 k hlt
          have hE0 := E0_toList
          have J := I.next r1 k1 rfl (by have := r0d; simp; omega)
          go_wp2_with fail
          go_loop [14] (fun x => ∃ j : Nat, j ≤ z ∧ j ≤ first s.L ∧ x = .int .i64 j) (fun x => z - (intOf x).toNat)
          case atStart => exact ⟨0, by omega, by omega, rfl⟩
          case round =>
            obtain ⟨j, hjz, hjf, rfl⟩ := hrel
            by_cases hjl : j < s.L.length
            · have cj : w1.cell? ⟨hb, j, none⟩ = some (.string s.L[j]) := own_cell (own_keep I.hv k1 (by simpa using I.nf)) (by simp [hjl])
              cases hx : s.L[j].toList.isEmpty
              · have hj1 : j + 1 ≤ first s.L := idx_gt hjl hjf (by rw [emp_iff]; exact hx)
                go_wp2
                go_round
                case rel => exact ⟨j + 1, by omega, by omega, by go_num⟩
                case measure => simp [intOf]; omega
              · have hjx : first s.L = j := idx_eq hjl hjf (by rw [emp_iff]; exact hx)
                exfalso
                omega
            · have hjx : first s.L = s.L.length := by omega
              clear hjx
              go_wp2_with fail
              refine (used_any _ F p _ J.rep).mono ?_
              rintro e w2 ⟨rfl, rfl⟩
              go_wp2
              go_roundw
              case rel => exact ⟨k + 1, s, by omega, by go_num, rfl, J⟩
              case measure => simp [intOf]; omega
    by_cases hv : opk (d k) = 1
    · have t3 : (bits .and .i64 (d k) 7 == 3) = false := by simp [show bits .and .i64 (d k) 7 = 1 from hv]
      have t4 : (bits .and .i64 (d k) 7 == 4) = false := by simp [show bits .and .i64 (d k) 7 = 1 from hv]
      have t5 : (bits .and .i64 (d k) 7 == 5) = false := by simp [show bits .and .i64 (d k) 7 = 1 from hv]
      have t6 : (bits .and .i64 (d k) 7 == 6) = false := by simp [show bits .and .i64 (d k) 7 = 1 from hv]
      have t7 : (bits .and .i64 (d k) 7 == 7) = false := by simp [show bits .and .i64 (d k) 7 = 1 from hv]
      have t0 : (bits .and .i64 (d k) 7 == 0) = false := by simp [show bits .and .i64 (d k) 7 = 1 from hv]
      have t1 : (bits .and .i64 (d k) 7 == 1) = true := by simp [show bits .and .i64 (d k) 7 = 1 from hv]
      have hkind : opk (d k) < 3 := by omega
      have KK := Lib.hid hkind
      have hne : opk (d k) ≠ 2 := by omega
      clear hkind hv hor
      by_cases hfr : first s.L < s.L.length
      · by_cases hsz : (bodyS (d k) (m k) (b k)).size = 64
        · as_aux_lemma =>
            have HS := Lib.hid (step_put_yes (s := s) KK.out hsz hfr)
            have hs1 : 64 ≤ (bodyS (d k) (m k) (b k)).size := by omega
            have hs2 : (bodyS (d k) (m k) (b k)).size ≤ 64 := by omega
            have hcc : cnt (s.L.set (first s.L) (bodyS (d k) (m k) (b k))) = cnt s.L + 1 := by
              have := cnt_set hfr (bodyS (d k) (m k) (b k))
              rw [first_emp hfr, emp_size hsz] at this
              simpa using this
            have HC := Lib.hid hcc
            clear hcc hsz
            go_wp2_with fail
            refine HD.out.mono ?_
            rw [HS.out]
            rintro e w1 ⟨rfl, r1, k1⟩
            have K1 := I.kp.trans k1 (fun g hg => .inr (I.fw g hg))
            have O1 := O.keep K1
            have q0 := O1.c0 k hlt
            have q1 := O1.c1 k hlt
            have q2 := O1.c2 k hlt
            have hE0 := E0_toList
            go_wp2_with fail
            go_loop [14] (fun x => ∃ j : Nat, j ≤ z ∧ j ≤ first s.L ∧ x = .int .i64 j) (fun x => z - (intOf x).toNat)
            case atStart => exact ⟨0, by omega, by omega, rfl⟩
            case round =>
              obtain ⟨j, hjz, hjf, rfl⟩ := hrel
              by_cases hjl : j < s.L.length
              · have cj : w1.cell? ⟨hb, j, none⟩ = some (.string s.L[j]) := own_cell (own_keep I.hv k1 (by simpa using I.nf)) (by simp [hjl])
                cases hx : s.L[j].toList.isEmpty
                · have hj1 : j + 1 ≤ first s.L := idx_gt hjl hjf (by rw [emp_iff]; exact hx)
                  go_wp2
                  go_round
                  case rel => exact ⟨j + 1, by omega, by omega, by go_num⟩
                  case measure => simp [intOf]; omega
                · have hjx : first s.L = j := idx_eq hjl hjf (by rw [emp_iff]; exact hx)
                  rw [hjx] at r1 HC ⊢
                  have HX := Lib.hid hjx
                  clear hjx

                  go_wp2_with fail
                  refine (body_any _ (d k) (m k) (b k) (O.rb k hlt).1 (O.rb k hlt).2).mono ?_
                  rintro e w4 ⟨rfl, k4⟩
                  have O4 := O1.keep k4
                  have q0 := O4.c0 k hlt
                  have q1 := O4.c1 k hlt
                  have q2 := O4.c2 k hlt
                  go_wp2_with fail
                  refine (body_any _ (d k) (m k) (b k) (O.rb k hlt).1 (O.rb k hlt).2).mono ?_
                  rintro e w5 ⟨rfl, k5⟩
                  have k15 : Keeps F wr w5 := (k1.trans k4 (by simp)).trans k5 (by simp)
                  have r5 := (r1.keep k4 (by simp)).keep k5 (by simp)
                  have o5 := own_keep I.hv k15 (by simpa using I.nf)
                  have c5 : w5.cell? ⟨hb, j, none⟩ = some (.string s.L[j]) := own_cell o5 (by simp [hjl])
                  have f5 := own_free o5 j
                  have O5 := O4.keep k5
                  have q0 := O5.c0 k hlt
                  have q1 := O5.c1 k hlt
                  have J2 := I.nextSet (j := j) (x := bodyS (d k) (m k) (b k)) r5 k15 rfl (by show s.ret + s.due ≤ s.ret + 1000; omega)
                  clear r1 r5 k1 k4 k5 k15 o5
                  go_wp2_with fail
                  refine (used_any _ F p _ J2.rep).mono ?_
                  rw [show (cnt (s.L.set j (bodyS (d k) (m k) (b k))) : Int) = (cnt s.L : Int) + 1 from by have := HC.out; omega]
                  rintro e w2 ⟨rfl, rfl⟩
                  go_wp2
                  go_roundw
                  case rel => exact ⟨k + 1, ⟨s.L.set j (bodyS (d k) (m k) (b k)), 0, s.ret + s.due⟩, by omega, by go_num, by rw [show (cnt (s.L.set j (bodyS (d k) (m k) (b k))) : Int) = (cnt s.L : Int) + 1 from by have := HC.out; omega], J2⟩
                  case measure => simp [intOf]; omega
              · have hjx : first s.L = s.L.length := by omega
                exfalso
                omega
        · exact absurd (body_size' hne) hsz
      · as_aux_lemma =>
          have HS := Lib.hid (step_put_no (s := s) (b := b k) (m := m k) KK.out (.inr (by omega)))
          go_wp2_with fail
          refine HD.out.mono ?_
          rw [HS.out]
          rintro e w1 ⟨rfl, r1, k1⟩
          have K1 := I.kp.trans k1 (fun g hg => .inr (I.fw g hg))
          have O1 := O.keep K1
          have q0 := O1.c0 k hlt
          have q1 := O1.c1 k hlt
          have q2 := O1.c2 k hlt
          have hE0 := E0_toList
          have J := I.next r1 k1 rfl (by have := r0d; simp; omega)
          go_wp2_with fail
          go_loop [14] (fun x => ∃ j : Nat, j ≤ z ∧ j ≤ first s.L ∧ x = .int .i64 j) (fun x => z - (intOf x).toNat)
          case atStart => exact ⟨0, by omega, by omega, rfl⟩
          case round =>
            obtain ⟨j, hjz, hjf, rfl⟩ := hrel
            by_cases hjl : j < s.L.length
            · have cj : w1.cell? ⟨hb, j, none⟩ = some (.string s.L[j]) := own_cell (own_keep I.hv k1 (by simpa using I.nf)) (by simp [hjl])
              cases hx : s.L[j].toList.isEmpty
              · have hj1 : j + 1 ≤ first s.L := idx_gt hjl hjf (by rw [emp_iff]; exact hx)
                go_wp2
                go_round
                case rel => exact ⟨j + 1, by omega, by omega, by go_num⟩
                case measure => simp [intOf]; omega
              · have hjx : first s.L = j := idx_eq hjl hjf (by rw [emp_iff]; exact hx)
                exfalso
                omega
            · have hjx : first s.L = s.L.length := by omega
              clear hjx
              go_wp2_with fail
              refine (used_any _ F p _ J.rep).mono ?_
              rintro e w2 ⟨rfl, rfl⟩
              go_wp2
              go_roundw
              case rel => exact ⟨k + 1, s, by omega, by go_num, rfl, J⟩
              case measure => simp [intOf]; omega
    by_cases hv : opk (d k) = 2
    · have t3 : (bits .and .i64 (d k) 7 == 3) = false := by simp [show bits .and .i64 (d k) 7 = 2 from hv]
      have t4 : (bits .and .i64 (d k) 7 == 4) = false := by simp [show bits .and .i64 (d k) 7 = 2 from hv]
      have t5 : (bits .and .i64 (d k) 7 == 5) = false := by simp [show bits .and .i64 (d k) 7 = 2 from hv]
      have t6 : (bits .and .i64 (d k) 7 == 6) = false := by simp [show bits .and .i64 (d k) 7 = 2 from hv]
      have t7 : (bits .and .i64 (d k) 7 == 7) = false := by simp [show bits .and .i64 (d k) 7 = 2 from hv]
      have t0 : (bits .and .i64 (d k) 7 == 0) = false := by simp [show bits .and .i64 (d k) 7 = 2 from hv]
      have t1 : (bits .and .i64 (d k) 7 == 1) = false := by simp [show bits .and .i64 (d k) 7 = 2 from hv]
      have t2 : (bits .and .i64 (d k) 7 == 2) = true := by simp [show bits .and .i64 (d k) 7 = 2 from hv]
      have hkind : opk (d k) < 3 := by omega
      have KK := Lib.hid hkind
      clear hkind hv hor
      by_cases hfr : first s.L < s.L.length
      · by_cases hsz : (bodyS (d k) (m k) (b k)).size = 64
        · as_aux_lemma =>
            have HS := Lib.hid (step_put_yes (s := s) KK.out hsz hfr)
            have hs1 : 64 ≤ (bodyS (d k) (m k) (b k)).size := by omega
            have hs2 : (bodyS (d k) (m k) (b k)).size ≤ 64 := by omega
            have hcc : cnt (s.L.set (first s.L) (bodyS (d k) (m k) (b k))) = cnt s.L + 1 := by
              have := cnt_set hfr (bodyS (d k) (m k) (b k))
              rw [first_emp hfr, emp_size hsz] at this
              simpa using this
            have HC := Lib.hid hcc
            clear hcc hsz
            go_wp2_with fail
            refine HD.out.mono ?_
            rw [HS.out]
            rintro e w1 ⟨rfl, r1, k1⟩
            have K1 := I.kp.trans k1 (fun g hg => .inr (I.fw g hg))
            have O1 := O.keep K1
            have q0 := O1.c0 k hlt
            have q1 := O1.c1 k hlt
            have q2 := O1.c2 k hlt
            have hE0 := E0_toList
            go_wp2_with fail
            go_loop [14] (fun x => ∃ j : Nat, j ≤ z ∧ j ≤ first s.L ∧ x = .int .i64 j) (fun x => z - (intOf x).toNat)
            case atStart => exact ⟨0, by omega, by omega, rfl⟩
            case round =>
              obtain ⟨j, hjz, hjf, rfl⟩ := hrel
              by_cases hjl : j < s.L.length
              · have cj : w1.cell? ⟨hb, j, none⟩ = some (.string s.L[j]) := own_cell (own_keep I.hv k1 (by simpa using I.nf)) (by simp [hjl])
                cases hx : s.L[j].toList.isEmpty
                · have hj1 : j + 1 ≤ first s.L := idx_gt hjl hjf (by rw [emp_iff]; exact hx)
                  go_wp2
                  go_round
                  case rel => exact ⟨j + 1, by omega, by omega, by go_num⟩
                  case measure => simp [intOf]; omega
                · have hjx : first s.L = j := idx_eq hjl hjf (by rw [emp_iff]; exact hx)
                  rw [hjx] at r1 HC ⊢
                  have HX := Lib.hid hjx
                  clear hjx

                  go_wp2_with fail
                  refine (body_any _ (d k) (m k) (b k) (O.rb k hlt).1 (O.rb k hlt).2).mono ?_
                  rintro e w4 ⟨rfl, k4⟩
                  have O4 := O1.keep k4
                  have q0 := O4.c0 k hlt
                  have q1 := O4.c1 k hlt
                  have q2 := O4.c2 k hlt
                  go_wp2_with fail
                  refine (body_any _ (d k) (m k) (b k) (O.rb k hlt).1 (O.rb k hlt).2).mono ?_
                  rintro e w5 ⟨rfl, k5⟩
                  have k15 : Keeps F wr w5 := (k1.trans k4 (by simp)).trans k5 (by simp)
                  have r5 := (r1.keep k4 (by simp)).keep k5 (by simp)
                  have o5 := own_keep I.hv k15 (by simpa using I.nf)
                  have c5 : w5.cell? ⟨hb, j, none⟩ = some (.string s.L[j]) := own_cell o5 (by simp [hjl])
                  have f5 := own_free o5 j
                  have O5 := O4.keep k5
                  have q0 := O5.c0 k hlt
                  have q1 := O5.c1 k hlt
                  have J2 := I.nextSet (j := j) (x := bodyS (d k) (m k) (b k)) r5 k15 rfl (by show s.ret + s.due ≤ s.ret + 1000; omega)
                  clear r1 r5 k1 k4 k5 k15 o5
                  go_wp2_with fail
                  refine (used_any _ F p _ J2.rep).mono ?_
                  rw [show (cnt (s.L.set j (bodyS (d k) (m k) (b k))) : Int) = (cnt s.L : Int) + 1 from by have := HC.out; omega]
                  rintro e w2 ⟨rfl, rfl⟩
                  go_wp2
                  go_roundw
                  case rel => exact ⟨k + 1, ⟨s.L.set j (bodyS (d k) (m k) (b k)), 0, s.ret + s.due⟩, by omega, by go_num, by rw [show (cnt (s.L.set j (bodyS (d k) (m k) (b k))) : Int) = (cnt s.L : Int) + 1 from by have := HC.out; omega], J2⟩
                  case measure => simp [intOf]; omega
              · have hjx : first s.L = s.L.length := by omega
                exfalso
                omega
        · as_aux_lemma =>
            have HS := Lib.hid (step_put_no (s := s) (b := b k) (m := m k) KK.out (.inl hsz))
            have hs0 := body_size (d k) (m k) (b k)
            have hs1 : (bodyS (d k) (m k) (b k)).size < 64 := by omega
            clear hsz hs0
            go_wp2_with fail
            refine HD.out.mono ?_
            rw [HS.out]
            rintro e w1 ⟨rfl, r1, k1⟩
            have K1 := I.kp.trans k1 (fun g hg => .inr (I.fw g hg))
            have O1 := O.keep K1
            have q0 := O1.c0 k hlt
            have q1 := O1.c1 k hlt
            have q2 := O1.c2 k hlt
            have hE0 := E0_toList
            have J := I.next r1 k1 rfl (by have := r0d; simp; omega)
            go_wp2_with fail
            go_loop [14] (fun x => ∃ j : Nat, j ≤ z ∧ j ≤ first s.L ∧ x = .int .i64 j) (fun x => z - (intOf x).toNat)
            case atStart => exact ⟨0, by omega, by omega, rfl⟩
            case round =>
              obtain ⟨j, hjz, hjf, rfl⟩ := hrel
              by_cases hjl : j < s.L.length
              · have cj : w1.cell? ⟨hb, j, none⟩ = some (.string s.L[j]) := own_cell (own_keep I.hv k1 (by simpa using I.nf)) (by simp [hjl])
                cases hx : s.L[j].toList.isEmpty
                · have hj1 : j + 1 ≤ first s.L := idx_gt hjl hjf (by rw [emp_iff]; exact hx)
                  go_wp2
                  go_round
                  case rel => exact ⟨j + 1, by omega, by omega, by go_num⟩
                  case measure => simp [intOf]; omega
                · have hjx : first s.L = j := idx_eq hjl hjf (by rw [emp_iff]; exact hx)
                  clear hjx
                  go_wp2_with fail
                  refine (body_any _ (d k) (m k) (b k) (O.rb k hlt).1 (O.rb k hlt).2).mono ?_
                  rintro e w4 ⟨rfl, k4⟩
                  have O4 := O1.keep k4
                  have q0 := O4.c0 k hlt
                  have q1 := O4.c1 k hlt
                  have q2 := O4.c2 k hlt
                  have J2 := J.step4 k4
                  clear J
                  go_wp2_with fail
                  refine (used_any _ F p _ J2.rep).mono ?_
                  rintro e w2 ⟨rfl, rfl⟩
                  go_wp2
                  go_roundw
                  case rel => exact ⟨k + 1, s, by omega, by go_num, rfl, J2⟩
                  case measure => simp [intOf]; omega
              · have hjx : first s.L = s.L.length := by omega
                exfalso
                omega
      · as_aux_lemma =>
          have HS := Lib.hid (step_put_no (s := s) (b := b k) (m := m k) KK.out (.inr (by omega)))
          go_wp2_with fail
          refine HD.out.mono ?_
          rw [HS.out]
          rintro e w1 ⟨rfl, r1, k1⟩
          have K1 := I.kp.trans k1 (fun g hg => .inr (I.fw g hg))
          have O1 := O.keep K1
          have q0 := O1.c0 k hlt
          have q1 := O1.c1 k hlt
          have q2 := O1.c2 k hlt
          have hE0 := E0_toList
          have J := I.next r1 k1 rfl (by have := r0d; simp; omega)
          go_wp2_with fail
          go_loop [14] (fun x => ∃ j : Nat, j ≤ z ∧ j ≤ first s.L ∧ x = .int .i64 j) (fun x => z - (intOf x).toNat)
          case atStart => exact ⟨0, by omega, by omega, rfl⟩
          case round =>
            obtain ⟨j, hjz, hjf, rfl⟩ := hrel
            by_cases hjl : j < s.L.length
            · have cj : w1.cell? ⟨hb, j, none⟩ = some (.string s.L[j]) := own_cell (own_keep I.hv k1 (by simpa using I.nf)) (by simp [hjl])
              cases hx : s.L[j].toList.isEmpty
              · have hj1 : j + 1 ≤ first s.L := idx_gt hjl hjf (by rw [emp_iff]; exact hx)
                go_wp2
                go_round
                case rel => exact ⟨j + 1, by omega, by omega, by go_num⟩
                case measure => simp [intOf]; omega
              · have hjx : first s.L = j := idx_eq hjl hjf (by rw [emp_iff]; exact hx)
                exfalso
                omega
            · have hjx : first s.L = s.L.length := by omega
              clear hjx
              go_wp2_with fail
              refine (used_any _ F p _ J.rep).mono ?_
              rintro e w2 ⟨rfl, rfl⟩
              go_wp2
              go_roundw
              case rel => exact ⟨k + 1, s, by omega, by go_num, rfl, J⟩
              case measure => simp [intOf]; omega
    exfalso
    omega

end Go.Proofs.Ytfhnlkbmkfjpnaa
