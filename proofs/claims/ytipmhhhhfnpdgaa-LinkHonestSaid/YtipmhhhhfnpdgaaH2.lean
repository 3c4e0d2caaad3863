/- LinkHonest: the walk. -/
import Derived.Test.YtipmhhhhfnpdgaaH1
import Derived.Deep.RegionHeld3
import Derived.Deep.RegionWith
import Derived.Deep.DeepCutAuto
import Derived.Deep.CutBlock
namespace Go.Proofs.Ytipmhhhhfnpdgaa
open Go.RowKit

theorem db_full {L : List Pk} {c : Bool} {j : Nat} (h : j < L.length) (hl : 500 ≤ L.length) : Lk.double ⟨L, c⟩ (j : Int) = (6, ⟨L, c⟩) := by
  unfold Lk.double hasI; rw [if_pos (by simp; omega), if_pos hl]
theorem db_ok {L : List Pk} {c : Bool} {j : Nat} (h : j < L.length) (hl : L.length < 500) : Lk.double ⟨L, c⟩ (j : Int) = (0, ⟨L ++ [L[j]], c⟩) := by
  unfold Lk.double hasI; rw [if_pos (by simp; omega), if_neg (by simp only []; omega)]; simp [List.getD, h]
theorem db_no {L : List Pk} {c : Bool} {i : Int} (h : ¬(0 ≤ i ∧ i < L.length)) : Lk.double ⟨L, c⟩ i = (4, ⟨L, c⟩) := by
  unfold Lk.double hasI; rw [decide_eq_false h]; rfl
theorem sn_bad {s : Lk} {f : Int} {b : ByteArray} (h : ¬(f = 0 ∨ f = 1)) : s.send f b = (1, s) := by unfold Lk.send; rw [if_pos (by omega)]
theorem sn_cut {L : List Pk} {f : Int} {b : ByteArray} : ∃ e : Int, (e = 1 ∨ e = 28) ∧ Lk.send ⟨L, true⟩ f b = (e, ⟨L, true⟩) := by
  by_cases h : f = 0 ∨ f = 1
  · exact ⟨28, .inr rfl, send_cut h⟩
  · exact ⟨1, .inl rfl, sn_bad h⟩

theorem hon_send {L S G : List Pk} {cut c2 : Bool} {k : Nat} {dd mm : Int} {bb : ByteArray} {R1 R3 : Int} {R2 : ByteArray} {L2 : List Pk} (J : Hon L cut S G k) (hv : opk dd = 0 ∨ opk dd = 1 ∨ opk dd = 2) (hl0 : L.length ≤ 500)
    (hst : Lk.step ⟨L, cut⟩ dd mm bb = (((R1, R2), R3), ⟨L2, c2⟩)) : c2 = cut ∧ (R3 = 0 → (mm = 0 ∨ mm = 1) ∧ Hon L2 c2 (S ++ [(1 - mm, bb)]) G (k + 1)) ∧ (R3 ≠ 0 → Hon L2 c2 S G (k + 1)) := by
  rw [step0 (by omega) (by omega) (by omega) (by omega) (by omega)] at hst
  cases cut
  · by_cases hf : mm = 0 ∨ mm = 1
    · by_cases hl : L.length < 500
      · rw [send_ok hf hl] at hst
        simp only [Prod.mk.injEq, Lk.mk.injEq] at hst
        obtain ⟨⟨⟨rfl, rfl⟩, rfl⟩, rfl, rfl⟩ := hst
        exact ⟨rfl, fun _ => ⟨hf, J.more _ (by simp only []; omega)⟩, fun h => absurd rfl h⟩
      · rw [send_full hf (by omega)] at hst
        simp only [Prod.mk.injEq, Lk.mk.injEq] at hst
        obtain ⟨⟨⟨rfl, rfl⟩, rfl⟩, rfl, rfl⟩ := hst
        exact ⟨rfl, fun h => absurd h (by omega), fun _ => J.same⟩
    · rw [sn_bad hf] at hst
      simp only [Prod.mk.injEq, Lk.mk.injEq] at hst
      obtain ⟨⟨⟨rfl, rfl⟩, rfl⟩, rfl, rfl⟩ := hst
      exact ⟨rfl, fun h => absurd h (by omega), fun _ => J.same⟩
  · obtain ⟨ee, he, hs⟩ := sn_cut (L := L) (f := mm) (b := bb)
    rw [hs] at hst
    simp only [Prod.mk.injEq, Lk.mk.injEq] at hst
    obtain ⟨⟨⟨rfl, rfl⟩, rfl⟩, rfl, rfl⟩ := hst
    exact ⟨rfl, fun h => absurd h (by omega), fun _ => J.same⟩
theorem hon_got {L S G : List Pk} {cut c2 : Bool} {k : Nat} {dd mm : Int} {bb : ByteArray} {R1 R3 : Int} {R2 : ByteArray} {L2 : List Pk} (J : Hon L cut S G k) (hv : opk dd = 3)
    (hst : Lk.step ⟨L, cut⟩ dd mm bb = (((R1, R2), R3), ⟨L2, c2⟩)) : c2 = cut ∧ (R3 = 0 → cut = false ∧ Hon L2 c2 S (G ++ [(R1, R2)]) (k + 1)) ∧ (R3 ≠ 0 → Hon L2 c2 S G (k + 1)) := by
  rw [step3 hv] at hst
  by_cases hj : 0 ≤ mm ∧ mm < L.length
  · obtain ⟨j, rfl⟩ : ∃ j : Nat, mm = j := ⟨mm.toNat, by omega⟩
    have hj2 : j < L.length := by omega
    have hc : cut = false := by
      cases cut
      · rfl
      · have := J.e rfl; subst this; simp at hj2
    subst hc
    rw [dl_yes hj2] at hst
    simp only [Prod.mk.injEq, Lk.mk.injEq] at hst
    obtain ⟨⟨hx, rfl⟩, rfl, rfl⟩ := hst
    refine ⟨rfl, fun _ => ⟨rfl, ?_⟩, fun h => absurd rfl h⟩
    have := J.deliver hj2
    rw [hx] at this
    exact this
  · rw [dl_no hj] at hst
    simp only [Prod.mk.injEq, Lk.mk.injEq] at hst
    obtain ⟨⟨⟨rfl, rfl⟩, rfl⟩, rfl, rfl⟩ := hst
    exact ⟨rfl, fun h => absurd h (by omega), fun _ => J.same⟩
theorem hon_drop {L S G : List Pk} {cut c2 : Bool} {k : Nat} {dd mm : Int} {bb : ByteArray} {R1 R3 : Int} {R2 : ByteArray} {L2 : List Pk} (J : Hon L cut S G k) (hv : opk dd = 4)
    (hst : Lk.step ⟨L, cut⟩ dd mm bb = (((R1, R2), R3), ⟨L2, c2⟩)) : c2 = cut ∧ Hon L2 c2 S G (k + 1) := by
  rw [step4 hv] at hst
  by_cases hj : 0 ≤ mm ∧ mm < L.length
  · obtain ⟨j, rfl⟩ : ∃ j : Nat, mm = j := ⟨mm.toNat, by omega⟩
    have hj2 : j < L.length := by omega
    have hc : cut = false := by
      cases cut
      · rfl
      · have := J.e rfl; subst this; simp at hj2
    subst hc
    rw [dl_yes hj2] at hst
    simp only [Prod.mk.injEq, Lk.mk.injEq] at hst
    obtain ⟨⟨⟨rfl, rfl⟩, rfl⟩, rfl, rfl⟩ := hst
    exact ⟨rfl, J.drop hj2⟩
  · rw [dl_no hj] at hst
    simp only [Prod.mk.injEq, Lk.mk.injEq] at hst
    obtain ⟨⟨⟨rfl, rfl⟩, rfl⟩, rfl, rfl⟩ := hst
    exact ⟨rfl, J.same⟩
theorem hon_dbl {L S G : List Pk} {cut c2 : Bool} {k : Nat} {dd mm : Int} {bb : ByteArray} {R1 R3 : Int} {R2 : ByteArray} {L2 : List Pk} (J : Hon L cut S G k) (hv : opk dd = 5)
    (hst : Lk.step ⟨L, cut⟩ dd mm bb = (((R1, R2), R3), ⟨L2, c2⟩)) : c2 = cut ∧ (R3 = 0 → ∃ (j : Nat) (hj : j < L.length), mm = j ∧ Hon L2 c2 (S ++ [L[j]]) G (k + 1)) ∧ (R3 ≠ 0 → Hon L2 c2 S G (k + 1)) := by
  rw [step5 hv] at hst
  by_cases hj : 0 ≤ mm ∧ mm < L.length
  · obtain ⟨j, rfl⟩ : ∃ j : Nat, mm = j := ⟨mm.toNat, by omega⟩
    have hj2 : j < L.length := by omega
    have hc : cut = false := by
      cases cut
      · rfl
      · have := J.e rfl; subst this; simp at hj2
    subst hc
    by_cases hl : L.length < 500
    · rw [db_ok hj2 hl] at hst
      simp only [Prod.mk.injEq, Lk.mk.injEq] at hst
      obtain ⟨⟨⟨rfl, rfl⟩, rfl⟩, rfl, rfl⟩ := hst
      exact ⟨rfl, fun _ => ⟨j, hj2, rfl, J.doubled hj2⟩, fun h => absurd rfl h⟩
    · rw [db_full hj2 (by omega)] at hst
      simp only [Prod.mk.injEq, Lk.mk.injEq] at hst
      obtain ⟨⟨⟨rfl, rfl⟩, rfl⟩, rfl, rfl⟩ := hst
      exact ⟨rfl, fun h => absurd h (by omega), fun _ => J.same⟩
  · rw [db_no hj] at hst
    simp only [Prod.mk.injEq, Lk.mk.injEq] at hst
    obtain ⟨⟨⟨rfl, rfl⟩, rfl⟩, rfl, rfl⟩ := hst
    exact ⟨rfl, fun h => absurd h (by omega), fun _ => J.same⟩
theorem hon_cut {L S G : List Pk} {cut c2 : Bool} {k : Nat} {dd mm : Int} {bb : ByteArray} {R1 R3 : Int} {R2 : ByteArray} {L2 : List Pk} (J : Hon L cut S G k) (hv : opk dd = 6)
    (hst : Lk.step ⟨L, cut⟩ dd mm bb = (((R1, R2), R3), ⟨L2, c2⟩)) : c2 = true ∧ Hon L2 c2 S G (k + 1) := by
  rw [step6 hv] at hst
  simp only [Prod.mk.injEq, Lk.mk.injEq] at hst
  obtain ⟨⟨⟨rfl, rfl⟩, rfl⟩, rfl, rfl⟩ := hst
  exact ⟨rfl, J.gone true⟩
theorem hon_join {L S G : List Pk} {cut c2 : Bool} {k : Nat} {dd mm : Int} {bb : ByteArray} {R1 R3 : Int} {R2 : ByteArray} {L2 : List Pk} (J : Hon L cut S G k) (hv : opk dd = 7)
    (hst : Lk.step ⟨L, cut⟩ dd mm bb = (((R1, R2), R3), ⟨L2, c2⟩)) : c2 = false ∧ Hon L2 c2 S G (k + 1) := by
  rw [step7 hv] at hst
  simp only [Prod.mk.injEq, Lk.mk.injEq] at hst
  obtain ⟨⟨⟨rfl, rfl⟩, rfl⟩, rfl, rfl⟩ := hst
  exact ⟨rfl, J.joined⟩

set_option maxRecDepth 100000 in
set_option maxHeartbeats 100000000 in
theorem honest_any (w : World) (A : Option Addr) (n c : Nat) (d m : Nat → Int) (b : Nat → ByteArray) (hn : n ≤ 9223372036854775807)
    (hA : 0 < n → ∃ bl off, A = some ⟨bl, off, none⟩ ∧ OpsAt w bl off n d m b) :
    Calls Try.prog 5 #[.slice A n c] w fun e w' => e = .returned (.bool true) ∧ Keeps [] w w' := by
  have HI31 := Lib.hid info31
  go_enter Try.func5, Try.ntmps5
  go_wp2_with fail
  refine (small_any _).mono ?_
  rintro e w1 ⟨rfl, k1⟩
  go_wp2_with fail
  refine (new_any _).mono ?_
  rintro e w2 ⟨F, p, rfl, r2, k2, hF⟩
  have hFw : ∀ g ∈ F, w.heap.size ≤ g := fun g hg => Nat.le_trans k1.size (hF g hg)
  have K3 : Keeps [] w w2 := k1.trans k2 (by simp)
  clear k1 k2 hF
  go_wp2_with fail
  have hfew := few_any w2 A n c d m b 200 hn (fun h => by obtain ⟨bl, off, e, O⟩ := hA h; exact ⟨bl, off, e, O.keep K3⟩)
  refine hfew.mono ?_
  clear hfew
  rintro e w4 ⟨rr, hr, rfl, rfl⟩
  cases rr
  · clear hr
    go_wp2
    go_ret
    exact ⟨rfl, K3⟩
  have hb := hr rfl
  have hn2 : n ≤ 200 := by have := hb.2; omega
  clear hr hb
  have I0 : HW w w2 F p [] false [] [] (.slice none 0 0) (.slice none 0 0) := ⟨r2, World.ownsRow_nil _ _ _ _, World.ownsRow_nil _ _ _ _, by simp, by simp, by simp, K3, hFw, by simp, by simp⟩
  have J0 : Hon [] false [] [] 0 := ⟨fun _ => rfl, fun _ => Nat.le_refl _, by simp, by simp, by simp⟩
  clear r2 K3 hFw
  go_wp2_with fail
  go_loopw [5, 6, 7, 8] (fun vS vG o i wr => ∃ (k : Nat) (L : List Pk) (cut : Bool) (S G : List Pk) (F : List Nat), k ≤ n ∧ i = .int .i64 k ∧ o = .bool cut ∧ HW w wr F p L cut S G vS vG ∧ Hon L cut S G k) (fun _ _ _ i _ => n - (intOf i).toNat)
  case atStart => exact ⟨0, [], false, [], [], F, by omega, rfl, rfl, I0, J0⟩
  case round =>
    clear I0 J0
    obtain ⟨k, L, cut, S, G, F, hk, rfl, rfl, I, J⟩ := hrel
    have hE : (!E0.toList.isEmpty) = false := by rw [E0_toList]; rfl
    have hSl := J.s
    have hGl := J.g
    have hLl : L.length ≤ 500 := by obtain ⟨_, _, h⟩ := I.r; exact h.m
    obtain ⟨AS, cS, rfl, -, -, hAS⟩ := own_shape I.oS
    obtain ⟨AG, cG, rfl, -, -, hAG⟩ := own_shape I.oG
    by_cases hlt : k < n
    rotate_left
    · obtain rfl : k = n := by omega
      have HJ := Lib.hid J
      have hk0 : Keeps [] wr (wr.alloc (.cells #[] 31)) := (Keeps.refl _ _).alloc _
      clear J hAS hAG hA
      go_wp2_with (at_builtin; refine wpList_app _ rfl (.tmp 128) (.tmp 129) _ rfl 31 (.agg #[.int .i64 0, .string E0]) 2 24 Try.underlying27 HI31.out rfl (by omega) (.slice (some ⟨wr.heap.size, 0, none⟩) 0 0) 0 [] rfl (own_e wr) _ _ _ _ _ rfl (reads_own (own_keep I.oG hk0 (by simp))) (pc_one _) (by unfold maxLen; omega) (by omega) ?_)
      intro v8 w8 ho8 hk8 hf8
      have kk8 := hk0.trans hk8 (by simp)
      have I8 := I.keep kk8
      have ho8' : w8.ownsRow 0 31 2 v8 G.length (pc G) := by simpa using ho8
      have hf8' : ∀ g ∈ fp v8, wr.heap.size ≤ g := fun g hg => by rcases hf8 g hg with h | h <;> omega
      clear ho8 hk8 hf8
      obtain ⟨A8, c8, rfl, -, -, -⟩ := own_shape ho8'
      go_wp2_with fail
      refine (list_any _ F p _ I8.r).mono ?_
      rintro e w9 ⟨vB, rfl, oB, kB, -⟩
      have oB : w9.ownsRow 0 31 2 vB L.length (pc L) := oB
      obtain ⟨AB, cB, rfl, -, -, -⟩ := own_shape oB
      have ho9 := own_keep ho8' kB (by simp)
      have kk9 := kk8.trans kB (by simp)
      go_wp2_with (at_builtin; refine wpList_app _ rfl (.tmp 130) (.tmp 132) _ rfl 31 (.agg #[.int .i64 0, .string E0]) 2 24 Try.underlying27 HI31.out rfl (by omega) (.slice A8 G.length c8) _ _ rfl ho9 _ _ _ _ _ rfl (reads_own oB) (pc_one _) (by unfold maxLen; omega) (by omega) ?_)
      intro v10 w10 ho10 hk10 hf10
      have I10 := I.keep (kk9.trans hk10 (fun g hg => .inr (hf8' g hg)))
      have ho11 : w10.ownsRow 0 31 2 v10 (G ++ L).length (pc (G ++ L)) := by simpa [pc_append] using ho10
      have hAl : (G ++ L).length ≤ 700 := by rw [List.length_append]; omega
      have hC := HJ.out.c
      have hT := HJ.out.t
      clear ho10 hk10 hf10 kk9 ho9 oB kB I8 kk8 ho8' hf8' hk0
      generalize G ++ L = M at *
      obtain ⟨A10, c10, rfl, -, -, hA10⟩ := own_shape ho11
      have HA := Lib.hid ho11
      have HI := Lib.hid I10
      clear ho11 I10 I HJ
      go_wp2_with fail
      go_loopw [13] (fun i wx => ∃ q : Nat, q ≤ M.length ∧ i = .int .i64 q ∧ Keeps [] w10 wx) (fun i _ => M.length - (intOf i).toNat)
      case atStart => exact ⟨0, by omega, rfl, Keeps.refl _ _⟩
      case round =>
        obtain ⟨q, hq, rfl, kx⟩ := hrel
        by_cases hq2 : q < M.length
        · obtain ⟨g, rfl⟩ := hA10 (by omega)
          have hx := hT M[q] (List.getElem_mem hq2)
          have hc := hC M[q]
          have hb1 := cntP_le M M[q]
          have hb2 := cntP_le S M[q]
          have P0 := Lib.hid (pc_at0 _ _ hq2)
          have P1 := Lib.hid (pc_at1 _ _ hq2)
          have hi0 : (0 : Int) ≤ (q : Int) := by omega
          have hi1 : (q : Int) < (M.length : Int) := by omega
          clear hC hT hA10
          generalize M[q] = x at *
          obtain ⟨x1, x2⟩ := x
          have hl1 : M.length ≤ 1000000 := by omega
          have hl2 : S.length ≤ 1000000 := by omega
          have hm1 := fun W h => countp_any W (.slice (some ⟨g, 0, none⟩) M.length c10) M (x1, x2) h hl1
          have hm2 := fun W h => countp_any W (.slice AS S.length cS) S (x1, x2) h hl2
          simp only [] at hm1 hm2
          generalize cntP M (x1, x2) = cu at *
          generalize cntP S (x1, x2) = cv at *
          have hc1 : ¬(cv < cu) := by omega
          have hc2 : ¬((cv : Int) < (cu : Int)) := by omega
          have hc3 : (cu : Int) ≤ 700 := by omega
          have hc4 : (cv : Int) ≤ 200 := by omega
          have HM1 := Lib.hid hm1
          have HM2 := Lib.hid hm2
          clear hc hb1 hb2 hm1 hm2
          have kd := kx.drew
          have j0 := own_cell (own_keep HA.out kd (by simp)) P0.out
          have j1 := own_cell (own_keep HA.out kd (by simp)) P1.out
          have key : ((x1 != 0) = false) ∨ ((x1 != 0) = true ∧ (x1 != 1) = false) := by
            rcases hx with h | h
            · exact .inl (by simp only [] at h; simp [h])
            · exact .inr ⟨by simp only [] at h; simp [h], by simp only [] at h; simp [h]⟩
          clear hx
          rcases key with t0 | ⟨t0, t1⟩
          · go_wp2_with fail
            first
              | (go_region_with ((first
                | (go_at_call_of 20 (Value.slice (some ⟨g, 0, none⟩) M.length c10); refine (HM1.out _ (own_keep HA.out (by assumption) (by simp))).mono ?_; rintro e w12 ⟨rfl, k12⟩; have m6 := Keeps.trans (F := []) (a := w10) (by assumption) k12 (by simp); have m7 := own_cell (own_keep HA.out m6 (by simp)) P0.out; have m8 := own_cell (own_keep HA.out m6 (by simp)) P1.out)
                | (go_at_call_of 20 (Value.slice AS S.length cS); refine (HM2.out _ (own_keep HI.out.oS (by assumption) (by simp))).mono ?_; rintro e w12 ⟨rfl, k12⟩; have m6 := Keeps.trans (F := []) (a := w10) (by assumption) k12 (by simp); have m7 := own_cell (own_keep HA.out m6 (by simp)) P0.out; have m8 := own_cell (own_keep HA.out m6 (by simp)) P1.out))))
              | fail
            all_goals
              go_wp2
              go_roundw
              case rel => exact ⟨q + 1, by omega, by go_num, by assumption⟩
              case measure => simp [intOf]; omega
          · go_wp2_with fail
            go_region_held3 (fun w' => w'.cell? ⟨g, q * 2, none⟩ = some (.int .i64 x1) ∧ w'.cell? ⟨g, q * 2 + 1, none⟩ = some (.string x2) ∧ Keeps [] w10 w')
              (first
                | exact ⟨j0, j1, kd⟩
                | (go_split_ands; exact ⟨by assumption, by assumption, by assumption⟩))
              ((first
                | (go_split_ands; go_at_call_of 20 (Value.slice (some ⟨g, 0, none⟩) M.length c10); refine (HM1.out _ (own_keep HA.out (by assumption) (by simp))).mono ?_; rintro e w12 ⟨rfl, k12⟩; have m6 := Keeps.trans (F := []) (a := w10) (by assumption) k12 (by simp); have m7 := own_cell (own_keep HA.out m6 (by simp)) P0.out; have m8 := own_cell (own_keep HA.out m6 (by simp)) P1.out)
                | (go_split_ands; go_at_call_of 20 (Value.slice AS S.length cS); refine (HM2.out _ (own_keep HI.out.oS (by assumption) (by simp))).mono ?_; rintro e w12 ⟨rfl, k12⟩; have m6 := Keeps.trans (F := []) (a := w10) (by assumption) k12 (by simp); have m7 := own_cell (own_keep HA.out m6 (by simp)) P0.out; have m8 := own_cell (own_keep HA.out m6 (by simp)) P1.out)))
            all_goals
              go_wp2
              go_roundw
              case rel => exact ⟨q + 1, by omega, by go_num, by go_split_ands; assumption⟩
              case measure => simp [intOf]; omega
        · go_wp2
          go_ret
          exact ⟨rfl, HI.out.kp.trans kx (by simp)⟩
    obtain ⟨bl, off, rfl, O⟩ := hA (by omega)
    have hq : ∀ W, Keeps [] w W → (W.cell? ⟨bl, off + k * 3, none⟩ = some (.int .i64 (d k)) ∧ W.cell? ⟨bl, off + k * 3 + 1, none⟩ = some (.int .i64 (m k)) ∧ W.cell? ⟨bl, off + k * 3 + 2, none⟩ = some (.string (b k))) :=
      fun W hk => ⟨(O.keep hk).c0 k hlt, (O.keep hk).c1 k hlt, (O.keep hk).c2 k hlt⟩
    have rd := O.rd k hlt
    have rm := O.rm k hlt
    obtain ⟨rd1, rd2⟩ := rd
    obtain ⟨rm1, rm2⟩ := rm
    clear hA O hAS hAG
    generalize d k = dd at hq rd1 rd2
    generalize m k = mm at hq rm1 rm2
    generalize b k = bb at hq
    have HQ := Lib.hid hq
    clear hq
    have hx := fun W F (h : LkRep 53 W F p ⟨L, cut⟩) => do_any W F p ⟨L, cut⟩ dd mm bb h
    obtain ⟨⟨⟨⟨R1, R2⟩, R3⟩, L2, c2⟩, hst⟩ : ∃ r, Lk.step ⟨L, cut⟩ dd mm bb = r := ⟨_, rfl⟩
    simp only [hst] at hx
    have HX := Lib.hid hx
    have HST := Lib.hid hst
    have HJ := Lib.hid J
    clear hx hst J
    go_wp2_with fail
    refine (list_any _ F p _ I.r).mono ?_
    rintro e w3 ⟨vB, rfl, oB, kB, fB⟩
    obtain ⟨AB, cB, rfl, hcB, -, hAB⟩ := own_shape oB
    have I3 := I.keep kB
    have lF := I.r.lt
    have dB : ∀ g ∈ fp (.slice AB L.length cB), g ∉ F := fun g hg hx => by have := fB g hg; have := lF g hx; omega
    clear lF fB
    obtain ⟨q0, q1, q2⟩ := HQ.out _ I3.kp
    clear I
    go_wp2_with fail
    refine (HX.out _ _ I3.r).mono ?_
    rintro e w6 ⟨rfl, n6⟩
    obtain ⟨F', I6, k6⟩ := I3.link n6
    have oB6 := own_keep (own_keep oB k6 dB) ((Keeps.refl [] w6).alloc (.cells #[.int .i64 R1, .string R2] 31)) (by simp)
    have I7 := I6.keep ((Keeps.refl [] w6).alloc (.cells #[.int .i64 R1, .string R2] 31))
    have bx : Blk (w6.alloc (.cells #[.int .i64 R1, .string R2] 31)) w6.heap.size 31 #[.int .i64 R1, .string R2] := Blk.new _ _ _
    have a0 := bx.cell 0
    have a1 := bx.cell 1
    clear q0 q1 q2
    obtain ⟨q0, q1, q2⟩ := HQ.out _ I7.kp
    have HAB := Lib.hid hAB
    clear n6 I3 I6 k6 dB oB bx HX hAB
    have HI7 := Lib.hid I7
    have HoB := Lib.hid oB6
    clear I7 oB6
    go_upto_block 2 with fail
    go_cut [5, 6, 7] (fun s5 s6 s7 wc => ∃ (S' G' : List Pk), s7 = .bool c2 ∧ HW w wc F' p L2 c2 S' G' s5 s6 ∧ Hon L2 c2 S' G' (k + 1))
    case first =>
      rcases opk_cases dd with hv | hv | hv | hv | hv | hv | hv | hv
      · have t3 : (bits .and .i64 dd 7 == 3) = false := by simp [show bits .and .i64 dd 7 = 0 from hv]
        have t4 : (bits .and .i64 dd 7 == 4) = false := by simp [show bits .and .i64 dd 7 = 0 from hv]
        have t5 : (bits .and .i64 dd 7 == 5) = false := by simp [show bits .and .i64 dd 7 = 0 from hv]
        have t6 : (bits .and .i64 dd 7 == 6) = false := by simp [show bits .and .i64 dd 7 = 0 from hv]
        have t7 : (bits .and .i64 dd 7 == 7) = false := by simp [show bits .and .i64 dd 7 = 0 from hv]
        have t0 : (bits .and .i64 dd 7 == 0) = true := by simp [show bits .and .i64 dd 7 = 0 from hv]
        have t1 : (bits .and .i64 dd 7 == 1) = false := by simp [show bits .and .i64 dd 7 = 0 from hv]
        have t2 : (bits .and .i64 dd 7 == 2) = false := by simp [show bits .and .i64 dd 7 = 0 from hv]
        obtain ⟨hc2, hy, hn0⟩ := hon_send HJ.out (.inl hv) hLl HST.out
        have HC := Lib.hid hc2
        have HY := Lib.hid hy
        have HN := Lib.hid hn0
        clear hv hc2 hy hn0
        by_cases hr : R3 = 0
        · have tr : (R3 == 0) = true := by simp [hr]
          obtain ⟨hmm, HH⟩ := HY.out hr
          have HH := Lib.hid HH
          clear hr
          have m0 : 0 ≤ mm := by omega
          have m1 : mm ≤ 1 := by omega
          have mw : IntKind.i64.wrap (1 - mm) = 1 - mm := by rw [IntKind.wrap_i64]; omega
          clear hmm a0 a1
          go_wp2_with fail
          go_region_law (refine step_app (by rfl) (.tmp 107) (.tmp 120) 27 (by rfl) 31 (.agg #[.int .i64 0, .string E0]) 2 24 Try.underlying27 HI31.out rfl (by omega) (.slice AS S.length cS) S.length (pc S) ?_ (own_keep HI7.out.oS (((Keeps.refl [] (w6.alloc (.cells #[.int .i64 R1, .string R2] 31))).alloc _).drew) (by simp)) _ _ 1 1 (pc [(1 - mm, bb)]) ?_ (reads_pk (w6.alloc (.cells #[.int .i64 R1, .string R2] 31)) (1 - mm) bb).drew (pc_one _) (by unfold maxLen; omega) (by omega) (fun v8 w8 ho8 hk8 hf8 => ?_); (focus (first | (simp [Act.eval]; done) | (simp [Act.eval, Act.put]; done))); (focus (first | (simp [Act.eval]; done) | (simp [Act.eval, Act.put]; done))); have I8 := (HI7.out.keep (((Keeps.refl [] (w6.alloc (.cells #[.int .i64 R1, .string R2] 31))).alloc (.cells #[.int .i64 (1 - mm), .string bb] 31)).drew)).addS (M := S ++ [(1 - mm, bb)]) (by simpa [pc_append] using ho8) hk8 (by intro g hg; simpa using hf8 g hg); clear ho8 hk8 hf8)
          all_goals
            have HI8 := Lib.hid I8
            clear I8
            go_wp2_with fail
            go_meet
            case rel => exact ⟨_, _, by rw [HC.out], HI8.out, HH.out⟩
        · have tr : (R3 == 0) = false := by simp [hr]
          have HH := Lib.hid (HN.out hr)
          clear hr
          go_wp2_with fail
          go_meet
          case rel => exact ⟨S, G, by rw [HC.out], HI7.out, HH.out⟩
      · have t3 : (bits .and .i64 dd 7 == 3) = false := by simp [show bits .and .i64 dd 7 = 1 from hv]
        have t4 : (bits .and .i64 dd 7 == 4) = false := by simp [show bits .and .i64 dd 7 = 1 from hv]
        have t5 : (bits .and .i64 dd 7 == 5) = false := by simp [show bits .and .i64 dd 7 = 1 from hv]
        have t6 : (bits .and .i64 dd 7 == 6) = false := by simp [show bits .and .i64 dd 7 = 1 from hv]
        have t7 : (bits .and .i64 dd 7 == 7) = false := by simp [show bits .and .i64 dd 7 = 1 from hv]
        have t0 : (bits .and .i64 dd 7 == 0) = false := by simp [show bits .and .i64 dd 7 = 1 from hv]
        have t1 : (bits .and .i64 dd 7 == 1) = true := by simp [show bits .and .i64 dd 7 = 1 from hv]
        have t2 : (bits .and .i64 dd 7 == 2) = false := by simp [show bits .and .i64 dd 7 = 1 from hv]
        obtain ⟨hc2, hy, hn0⟩ := hon_send HJ.out (.inr (.inl hv)) hLl HST.out
        have HC := Lib.hid hc2
        have HY := Lib.hid hy
        have HN := Lib.hid hn0
        clear hv hc2 hy hn0
        by_cases hr : R3 = 0
        · have tr : (R3 == 0) = true := by simp [hr]
          obtain ⟨hmm, HH⟩ := HY.out hr
          have HH := Lib.hid HH
          clear hr
          have m0 : 0 ≤ mm := by omega
          have m1 : mm ≤ 1 := by omega
          have mw : IntKind.i64.wrap (1 - mm) = 1 - mm := by rw [IntKind.wrap_i64]; omega
          clear hmm a0 a1
          go_wp2_with fail
          go_region_law (refine step_app (by rfl) (.tmp 107) (.tmp 120) 27 (by rfl) 31 (.agg #[.int .i64 0, .string E0]) 2 24 Try.underlying27 HI31.out rfl (by omega) (.slice AS S.length cS) S.length (pc S) ?_ (own_keep HI7.out.oS (((Keeps.refl [] (w6.alloc (.cells #[.int .i64 R1, .string R2] 31))).alloc _).drew) (by simp)) _ _ 1 1 (pc [(1 - mm, bb)]) ?_ (reads_pk (w6.alloc (.cells #[.int .i64 R1, .string R2] 31)) (1 - mm) bb).drew (pc_one _) (by unfold maxLen; omega) (by omega) (fun v8 w8 ho8 hk8 hf8 => ?_); (focus (first | (simp [Act.eval]; done) | (simp [Act.eval, Act.put]; done))); (focus (first | (simp [Act.eval]; done) | (simp [Act.eval, Act.put]; done))); have I8 := (HI7.out.keep (((Keeps.refl [] (w6.alloc (.cells #[.int .i64 R1, .string R2] 31))).alloc (.cells #[.int .i64 (1 - mm), .string bb] 31)).drew)).addS (M := S ++ [(1 - mm, bb)]) (by simpa [pc_append] using ho8) hk8 (by intro g hg; simpa using hf8 g hg); clear ho8 hk8 hf8)
          all_goals
            have HI8 := Lib.hid I8
            clear I8
            go_wp2_with fail
            go_meet
            case rel => exact ⟨_, _, by rw [HC.out], HI8.out, HH.out⟩
        · have tr : (R3 == 0) = false := by simp [hr]
          have HH := Lib.hid (HN.out hr)
          clear hr
          go_wp2_with fail
          go_meet
          case rel => exact ⟨S, G, by rw [HC.out], HI7.out, HH.out⟩
      · have t3 : (bits .and .i64 dd 7 == 3) = false := by simp [show bits .and .i64 dd 7 = 2 from hv]
        have t4 : (bits .and .i64 dd 7 == 4) = false := by simp [show bits .and .i64 dd 7 = 2 from hv]
        have t5 : (bits .and .i64 dd 7 == 5) = false := by simp [show bits .and .i64 dd 7 = 2 from hv]
        have t6 : (bits .and .i64 dd 7 == 6) = false := by simp [show bits .and .i64 dd 7 = 2 from hv]
        have t7 : (bits .and .i64 dd 7 == 7) = false := by simp [show bits .and .i64 dd 7 = 2 from hv]
        have t0 : (bits .and .i64 dd 7 == 0) = false := by simp [show bits .and .i64 dd 7 = 2 from hv]
        have t1 : (bits .and .i64 dd 7 == 1) = false := by simp [show bits .and .i64 dd 7 = 2 from hv]
        have t2 : (bits .and .i64 dd 7 == 2) = true := by simp [show bits .and .i64 dd 7 = 2 from hv]
        obtain ⟨hc2, hy, hn0⟩ := hon_send HJ.out (.inr (.inr hv)) hLl HST.out
        have HC := Lib.hid hc2
        have HY := Lib.hid hy
        have HN := Lib.hid hn0
        clear hv hc2 hy hn0
        by_cases hr : R3 = 0
        · have tr : (R3 == 0) = true := by simp [hr]
          obtain ⟨hmm, HH⟩ := HY.out hr
          have HH := Lib.hid HH
          clear hr
          have m0 : 0 ≤ mm := by omega
          have m1 : mm ≤ 1 := by omega
          have mw : IntKind.i64.wrap (1 - mm) = 1 - mm := by rw [IntKind.wrap_i64]; omega
          clear hmm a0 a1
          go_wp2_with fail
          go_region_law (refine step_app (by rfl) (.tmp 107) (.tmp 120) 27 (by rfl) 31 (.agg #[.int .i64 0, .string E0]) 2 24 Try.underlying27 HI31.out rfl (by omega) (.slice AS S.length cS) S.length (pc S) ?_ (own_keep HI7.out.oS (((Keeps.refl [] (w6.alloc (.cells #[.int .i64 R1, .string R2] 31))).alloc _).drew) (by simp)) _ _ 1 1 (pc [(1 - mm, bb)]) ?_ (reads_pk (w6.alloc (.cells #[.int .i64 R1, .string R2] 31)) (1 - mm) bb).drew (pc_one _) (by unfold maxLen; omega) (by omega) (fun v8 w8 ho8 hk8 hf8 => ?_); (focus (first | (simp [Act.eval]; done) | (simp [Act.eval, Act.put]; done))); (focus (first | (simp [Act.eval]; done) | (simp [Act.eval, Act.put]; done))); have I8 := (HI7.out.keep (((Keeps.refl [] (w6.alloc (.cells #[.int .i64 R1, .string R2] 31))).alloc (.cells #[.int .i64 (1 - mm), .string bb] 31)).drew)).addS (M := S ++ [(1 - mm, bb)]) (by simpa [pc_append] using ho8) hk8 (by intro g hg; simpa using hf8 g hg); clear ho8 hk8 hf8)
          all_goals
            have HI8 := Lib.hid I8
            clear I8
            go_wp2_with fail
            go_meet
            case rel => exact ⟨_, _, by rw [HC.out], HI8.out, HH.out⟩
        · have tr : (R3 == 0) = false := by simp [hr]
          have HH := Lib.hid (HN.out hr)
          clear hr
          go_wp2_with fail
          go_meet
          case rel => exact ⟨S, G, by rw [HC.out], HI7.out, HH.out⟩
      · have t3 : (bits .and .i64 dd 7 == 3) = true := by simp [show bits .and .i64 dd 7 = 3 from hv]
        have t4 : (bits .and .i64 dd 7 == 4) = false := by simp [show bits .and .i64 dd 7 = 3 from hv]
        have t5 : (bits .and .i64 dd 7 == 5) = false := by simp [show bits .and .i64 dd 7 = 3 from hv]
        have t6 : (bits .and .i64 dd 7 == 6) = false := by simp [show bits .and .i64 dd 7 = 3 from hv]
        have t7 : (bits .and .i64 dd 7 == 7) = false := by simp [show bits .and .i64 dd 7 = 3 from hv]
        have t0 : (bits .and .i64 dd 7 == 0) = false := by simp [show bits .and .i64 dd 7 = 3 from hv]
        have t1 : (bits .and .i64 dd 7 == 1) = false := by simp [show bits .and .i64 dd 7 = 3 from hv]
        have t2 : (bits .and .i64 dd 7 == 2) = false := by simp [show bits .and .i64 dd 7 = 3 from hv]
        obtain ⟨hc2, hy, hn0⟩ := hon_got HJ.out hv HST.out
        have HC := Lib.hid hc2
        have HY := Lib.hid hy
        have HN := Lib.hid hn0
        clear hv hc2 hy hn0
        by_cases hr : R3 = 0
        · have tr : (R3 == 0) = true := by simp [hr]
          obtain ⟨hcc, HH⟩ := HY.out hr
          have HH := Lib.hid HH
          subst hcc
          clear hr
          go_wp2_with (at_builtin; refine wpList_app _ rfl (.tmp 55) (.tmp 57) _ rfl 31 (.agg #[.int .i64 0, .string E0]) 2 24 Try.underlying27 HI31.out rfl (by omega) (.slice AG G.length cG) _ _ rfl (own_keep HI7.out.oG ((Keeps.refl [] _).alloc _) (by simp)) _ (some ⟨(w6.alloc (.cells #[.int .i64 R1, .string R2] 31)).heap.size, 0, none⟩) 1 1 (pc [(R1, R2)]) (by simp [Act.eval]) (reads_pk (w6.alloc (.cells #[.int .i64 R1, .string R2] 31)) _ _) (pc_one _) (by unfold maxLen; omega) (by omega) ?_)
          intro v8 w8 ho8 hk8 hf8
          have I8 := (HI7.out.keep ((Keeps.refl [] (w6.alloc (.cells #[.int .i64 R1, .string R2] 31))).alloc (.cells #[.int .i64 R1, .string R2] 31))).addG (M := G ++ [(R1, R2)]) (by simpa [pc_append] using ho8) hk8 (by intro g hg; simpa using hf8 g hg)
          have HI8 := Lib.hid I8
          clear I8 ho8 hk8 hf8 a0 a1 q0 q1 q2
          go_wp2_with fail
          go_meet
          case rel => exact ⟨_, _, by rw [HC.out], HI8.out, HH.out⟩
        · have tr : (R3 == 0) = false := by simp [hr]
          have HH := Lib.hid (HN.out hr)
          clear hr
          cases cut
          all_goals
            go_wp2_with fail
            go_meet
            case rel => exact ⟨S, G, by rw [HC.out], HI7.out, HH.out⟩
      · have t3 : (bits .and .i64 dd 7 == 3) = false := by simp [show bits .and .i64 dd 7 = 4 from hv]
        have t4 : (bits .and .i64 dd 7 == 4) = true := by simp [show bits .and .i64 dd 7 = 4 from hv]
        have t5 : (bits .and .i64 dd 7 == 5) = false := by simp [show bits .and .i64 dd 7 = 4 from hv]
        have t6 : (bits .and .i64 dd 7 == 6) = false := by simp [show bits .and .i64 dd 7 = 4 from hv]
        have t7 : (bits .and .i64 dd 7 == 7) = false := by simp [show bits .and .i64 dd 7 = 4 from hv]
        have t0 : (bits .and .i64 dd 7 == 0) = false := by simp [show bits .and .i64 dd 7 = 4 from hv]
        have t1 : (bits .and .i64 dd 7 == 1) = false := by simp [show bits .and .i64 dd 7 = 4 from hv]
        have t2 : (bits .and .i64 dd 7 == 2) = false := by simp [show bits .and .i64 dd 7 = 4 from hv]
        obtain ⟨hc2, hh⟩ := hon_drop HJ.out hv HST.out
        have HC := Lib.hid hc2
        have HH := Lib.hid hh
        clear hv hc2 hh
        go_wp2_with fail
        go_meet
        case rel => exact ⟨S, G, by rw [HC.out], HI7.out, HH.out⟩
      · have t3 : (bits .and .i64 dd 7 == 3) = false := by simp [show bits .and .i64 dd 7 = 5 from hv]
        have t4 : (bits .and .i64 dd 7 == 4) = false := by simp [show bits .and .i64 dd 7 = 5 from hv]
        have t5 : (bits .and .i64 dd 7 == 5) = true := by simp [show bits .and .i64 dd 7 = 5 from hv]
        have t6 : (bits .and .i64 dd 7 == 6) = false := by simp [show bits .and .i64 dd 7 = 5 from hv]
        have t7 : (bits .and .i64 dd 7 == 7) = false := by simp [show bits .and .i64 dd 7 = 5 from hv]
        have t0 : (bits .and .i64 dd 7 == 0) = false := by simp [show bits .and .i64 dd 7 = 5 from hv]
        have t1 : (bits .and .i64 dd 7 == 1) = false := by simp [show bits .and .i64 dd 7 = 5 from hv]
        have t2 : (bits .and .i64 dd 7 == 2) = false := by simp [show bits .and .i64 dd 7 = 5 from hv]
        obtain ⟨hc2, hy, hn0⟩ := hon_dbl HJ.out hv HST.out
        have HC := Lib.hid hc2
        have HY := Lib.hid hy
        have HN := Lib.hid hn0
        clear hv hc2 hy hn0
        by_cases hr : R3 = 0
        · have tr : (R3 == 0) = true := by simp [hr]
          obtain ⟨j, hj, hmj, HH⟩ := HY.out hr
          have HH := Lib.hid HH
          subst hmj
          clear hr a0 a1
          obtain ⟨gB, rfl⟩ := HAB.out (by omega)
          have p0 : (w6.alloc (.cells #[.int .i64 R1, .string R2] 31)).cell? ⟨gB, j * 2, none⟩ = some (.int .i64 L[j].1) := own_cell HoB.out (pc_at0 _ _ hj)
          have p1 : (w6.alloc (.cells #[.int .i64 R1, .string R2] 31)).cell? ⟨gB, j * 2 + 1, none⟩ = some (.string L[j].2) := own_cell HoB.out (pc_at1 _ _ hj)
          have j0 : (0 : Int) ≤ (j : Int) := by omega
          have j1 : (j : Int) < (L.length : Int) := by omega
          generalize L[j] = x at *
          obtain ⟨x1, x2⟩ := x
          go_wp2_with (at_builtin; refine wpList_app _ rfl (.tmp 86) (.tmp 95) _ rfl 31 (.agg #[.int .i64 0, .string E0]) 2 24 Try.underlying27 HI31.out rfl (by omega) (.slice AS S.length cS) _ _ rfl (own_keep HI7.out.oS ((Keeps.refl [] _).alloc _) (by simp)) _ (some ⟨(w6.alloc (.cells #[.int .i64 R1, .string R2] 31)).heap.size, 0, none⟩) 1 1 (pc [(x1, x2)]) (by simp [Act.eval]) (reads_pk (w6.alloc (.cells #[.int .i64 R1, .string R2] 31)) _ _) (pc_one _) (by unfold maxLen; omega) (by omega) ?_)
          intro v8 w8 ho8 hk8 hf8
          have I8 := (HI7.out.keep ((Keeps.refl [] (w6.alloc (.cells #[.int .i64 R1, .string R2] 31))).alloc (.cells #[.int .i64 x1, .string x2] 31))).addS (M := S ++ [(x1, x2)]) (by simpa [pc_append] using ho8) hk8 (by intro g hg; simpa using hf8 g hg)
          have HI8 := Lib.hid I8
          clear I8 ho8 hk8 hf8 q0 q1 q2 p0 p1
          go_wp2_with fail
          go_meet
          case rel => exact ⟨_, _, by rw [HC.out], HI8.out, HH.out⟩
        · have tr : (R3 == 0) = false := by simp [hr]
          have HH := Lib.hid (HN.out hr)
          clear hr
          go_wp2_with fail
          go_meet
          case rel => exact ⟨S, G, by rw [HC.out], HI7.out, HH.out⟩
      · have t3 : (bits .and .i64 dd 7 == 3) = false := by simp [show bits .and .i64 dd 7 = 6 from hv]
        have t4 : (bits .and .i64 dd 7 == 4) = false := by simp [show bits .and .i64 dd 7 = 6 from hv]
        have t5 : (bits .and .i64 dd 7 == 5) = false := by simp [show bits .and .i64 dd 7 = 6 from hv]
        have t6 : (bits .and .i64 dd 7 == 6) = true := by simp [show bits .and .i64 dd 7 = 6 from hv]
        have t7 : (bits .and .i64 dd 7 == 7) = false := by simp [show bits .and .i64 dd 7 = 6 from hv]
        have t0 : (bits .and .i64 dd 7 == 0) = false := by simp [show bits .and .i64 dd 7 = 6 from hv]
        have t1 : (bits .and .i64 dd 7 == 1) = false := by simp [show bits .and .i64 dd 7 = 6 from hv]
        have t2 : (bits .and .i64 dd 7 == 2) = false := by simp [show bits .and .i64 dd 7 = 6 from hv]
        obtain ⟨hc2, hh⟩ := hon_cut HJ.out hv HST.out
        have HC := Lib.hid hc2
        have HH := Lib.hid hh
        clear hv hc2 hh
        go_wp2_with fail
        go_meet
        case rel => exact ⟨S, G, by rw [HC.out], HI7.out, HH.out⟩
      · have t3 : (bits .and .i64 dd 7 == 3) = false := by simp [show bits .and .i64 dd 7 = 7 from hv]
        have t4 : (bits .and .i64 dd 7 == 4) = false := by simp [show bits .and .i64 dd 7 = 7 from hv]
        have t5 : (bits .and .i64 dd 7 == 5) = false := by simp [show bits .and .i64 dd 7 = 7 from hv]
        have t6 : (bits .and .i64 dd 7 == 6) = false := by simp [show bits .and .i64 dd 7 = 7 from hv]
        have t7 : (bits .and .i64 dd 7 == 7) = true := by simp [show bits .and .i64 dd 7 = 7 from hv]
        have t0 : (bits .and .i64 dd 7 == 0) = false := by simp [show bits .and .i64 dd 7 = 7 from hv]
        have t1 : (bits .and .i64 dd 7 == 1) = false := by simp [show bits .and .i64 dd 7 = 7 from hv]
        have t2 : (bits .and .i64 dd 7 == 2) = false := by simp [show bits .and .i64 dd 7 = 7 from hv]
        obtain ⟨hc2, hh⟩ := hon_join HJ.out hv HST.out
        have HC := Lib.hid hc2
        have HH := Lib.hid hh
        clear hv hc2 hh
        go_wp2_with fail
        go_meet
        case rel => exact ⟨S, G, by rw [HC.out], HI7.out, HH.out⟩
    case rest =>
      obtain ⟨S2, G2, rfl, I8, H8⟩ := hcut
      have HI := Lib.hid I8
      have HH := Lib.hid H8
      have hcnt := count_any wc F' p _ I8.r
      have hz : Hid (c2 = true → L2.length = 0) := Lib.hid (fun h => by rw [H8.e h]; rfl)
      clear I8 H8 HST HJ HI7 HoB HAB HQ q0 q1 q2 a0 a1
      cases c2
      · clear hcnt
        go_wp2
        go_roundw
        case rel => exact ⟨k + 1, _, _, S2, G2, F', by omega, by go_num, rfl, HI.out, HH.out⟩
        case measure => simp [intOf]; omega
      · have hl2 := hz.out rfl
        go_wp2_with fail
        refine hcnt.mono ?_
        simp only [hl2]
        rintro e wd ⟨rfl, rfl⟩
        go_wp2
        go_roundw
        case rel => exact ⟨k + 1, _, _, S2, G2, F', by omega, by go_num, rfl, HI.out, HH.out⟩
        case measure => simp [intOf]; omega
end Go.Proofs.Ytipmhhhhfnpdgaa
