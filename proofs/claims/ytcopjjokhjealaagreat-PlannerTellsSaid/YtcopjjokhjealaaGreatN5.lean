/- The reference: Right, New, Finished, Ahead, Oldest. -/
import Derived.Test.YtcopjjokhjealaaGreatN4
import Derived.Deep.QuietTactic
import Derived.BigQuiet
namespace Go.Proofs.YtcopjjokhjealaaGreat
open Go.RowKit

/-- The reference's planner at q, its sizes bounded. -/
def QR (w : World) (G : List Nat) (q : Nat) (s : Pl) (nl nc : Nat) : Prop := ∃ LV C A1 A2 A3 c1 c2 c3, QAt w G q s LV C A1 A2 A3 c1 c2 c3 ∧ LV.length ≤ nl ∧ C.length ≤ nc
/-- What a call that renews it leaves. -/
def QN (w w' : World) (G : List Nat) (q : Nat) (s : Pl) (nl nc : Nat) : Prop := ∃ G', QR w' G' q s nl nc ∧ Keeps [q] w w' ∧ ∀ g ∈ G', g ∈ G ∨ w.heap.size ≤ g
section
variable {w w1 w' : World} {G H : List Nat} {q : Nat} {s s' : Pl} {nl nc nl' nc' : Nat}
theorem QR.keep (h : QR w G q s nl nc) (hk : Keeps H w w') (hd : ∀ g ∈ G, g ∉ H) (hG : ∀ g ∈ H, ¬ IntRow w g) : QR w' G q s nl nc := by
  obtain ⟨LV, C, A1, A2, A3, c1, c2, c3, h, h1, h2⟩ := h
  exact ⟨LV, C, A1, A2, A3, c1, c2, c3, h.keep hk hd hG, h1, h2⟩
theorem QR.keep0 (h : QR w G q s nl nc) (hk : Keeps [] w w') : QR w' G q s nl nc := h.keep hk (fun _ _ => by simp) (fun _ hg => by cases hg)
theorem QR.lt (h : QR w G q s nl nc) : ∀ g ∈ G, g < w.heap.size := by obtain ⟨LV, C, A1, A2, A3, c1, c2, c3, h, -⟩ := h; exact h.lt
theorem QR.noInt (h : QR w G q s nl nc) : ∀ g ∈ G, ¬ IntRow w g := by obtain ⟨LV, C, A1, A2, A3, c1, c2, c3, h, -⟩ := h; exact h.noInt
theorem QR.memq (h : QR w G q s nl nc) : q ∈ G := by obtain ⟨LV, C, A1, A2, A3, c1, c2, c3, h, -⟩ := h; exact h.memq
theorem QR.mono (h : QR w G q s nl nc) (h1 : nl ≤ nl') (h2 : nc ≤ nc') : QR w G q s nl' nc' := by
  obtain ⟨LV, C, A1, A2, A3, c1, c2, c3, h, h3, h4⟩ := h
  exact ⟨LV, C, A1, A2, A3, c1, c2, c3, h, by omega, by omega⟩
theorem QN.same (h : QR w G q s nl nc) (hk : Keeps [] w w') : QN w w' G q s nl nc := ⟨G, h.keep0 hk, hk.mono (by simp), fun _ hg => .inl hg⟩
theorem QN.mono (h : QN w w' G q s nl nc) (h1 : nl ≤ nl') (h2 : nc ≤ nc') : QN w w' G q s nl' nc' := by
  obtain ⟨G', h, k, f⟩ := h
  exact ⟨G', h.mono h1 h2, k, f⟩
end
theorem newQ_of {w w1 w' : World} {G G1 : List Nat} {q : Nat} {s' : Pl} {nl nc : Nat} (k1 : Keeps [q] w w1) (f1 : ∀ g ∈ G1, g ∈ G ∨ w.heap.size ≤ g) (h : QN w1 w' G1 q s' nl nc) : QN w w' G q s' nl nc := by
  obtain ⟨G', h, k, f⟩ := h
  refine ⟨G', h, k1.trans k (fun g hg => .inl hg), fun g hg => ?_⟩
  rcases f g hg with h1 | h1
  · exact f1 g h1
  · exact .inr (Nat.le_trans k1.size h1)
/-- Numbers that are right. -/
theorem rightB_mk : ∀ {L : List Int} {f : Int → Bool}, (∀ x ∈ L, okN x = true) → (∀ x ∈ L, f x = false) → L.Nodup → rightB f L = true
  | [], _, _, _, _ => rfl
  | x :: r, f, h1, h2, h3 => by
    obtain ⟨h4, h5⟩ := List.nodup_cons.1 h3
    unfold rightB
    rw [h1 x (by simp), h2 x (by simp), rightB_mk (fun y hy => h1 y (by simp [hy])) (fun y hy => ?_) h5]
    · rfl
    · rw [if_neg (fun e => h4 (by rw [← e]; exact hy))]; exact h2 y (by simp [hy])
theorem okN_iff {x : Int} : okN x = true ↔ 1 ≤ x ∧ x ≤ 1099511627776 := by unfold okN; simp
theorem rightL_end {L : List Int} (h1 : ∀ j (hj : j < L.length), okN L[j] = true) (h2 : ∀ j (hj : j < L.length), j < 500 → L[j] ∉ L.take j) : rightL L = decide (L.length ≤ 500) := by
  unfold rightL
  by_cases h : L.length ≤ 500
  · rw [rightB_mk (fun x hx => by obtain ⟨j, hj, rfl⟩ := List.getElem_of_mem hx; exact h1 j hj) (fun _ _ => rfl)]
    · simp
    · rw [List.nodup_iff_pairwise_ne, List.pairwise_iff_getElem]
      intro i j hi hj hij e
      exact h2 j hj (by omega) (by rw [← e, List.mem_iff_getElem]; exact ⟨i, by rw [List.length_take]; omega, by rw [List.getElem_take]⟩)
  · rw [decide_eq_false h, Bool.and_false]
theorem rightL_bad {L : List Int} {i : Nat} (hi : i < L.length) (h : okN L[i] = false ∨ L[i] ∈ L.take i) : rightL L = false := by
  cases hr : rightL L with
  | false => rfl
  | true =>
    obtain ⟨h1, h2, h3⟩ := rightL_ok hr
    rcases h with h | h
    · have := okN_iff.2 (h1 _ (List.getElem_mem hi))
      rw [h] at this; cases this
    · obtain ⟨j, hj, e⟩ := List.getElem_of_mem h
      rw [List.length_take] at hj
      rw [List.getElem_take] at e
      rw [List.nodup_iff_pairwise_ne, List.pairwise_iff_getElem] at h2
      exact absurd e (h2 j i (by omega) hi (by omega))
theorem AtZ.take {w : World} {A : Option Addr} {L : List Int} (h : AtZ w A L) (k : Nat) : AtZ w A (L.take k) := by
  refine ⟨fun h0 => ?_, by have := h.mx; rw [List.length_take]; omega⟩
  rw [List.length_take] at h0
  obtain ⟨b, off, h1, h2, h3⟩ := h.at_ (by omega)
  refine ⟨b, off, h1, h2, fun j hj => ?_⟩
  rw [List.length_take] at hj
  rw [List.getElem_take]
  exact h3 j (by omega)
noncomputable def rq4C : Code := ((Tryz.f25.body.bind (theRegion 4)).getD .skip)
set_option maxRecDepth 1000000 in
set_option maxHeartbeats 1600000 in
theorem rq4_any (w : World) (bl off n c k : Nat) (y : Int) (hin : Bool) (K : Exit → Act → World → Prop) (hk : k < n) (hc : n ≤ c) (c0 : w.cell? ⟨bl, off + k, none⟩ = some (.int .i64 y))
    (hC : ∀ W, Keeps [] w W → Calls Tryz.prog 55 #[.slice (some ⟨bl, off, none⟩) k c, .int .i64 y] W fun e w' => e = .returned (.bool hin) ∧ w' = W)
    (b : Bool) (hb : (decide (y < 1) || decide (1099511627776 < y) || (decide (k < 500) && hin)) = b)
    (u1 u2 u4 u5 u6 u7 u8 u9 u10 u11 u12 u13 u14 u15 u16 u17 u18 u19 u20 u21 u22 u23 u24 u25 u26 u27 u28 u29 u30 u31 u32 u33 u34 u35 u36 u37 u38 : Value)
    (hK : ∀ (v10 v11 v12 v13 v14 v15 v16 v17 v18 v19 v20 v21 v22 v23 v24 v25 v26 v27 v28 v29 v30 v31 v32 v33 v34 : Value) (nq : Nat) (b0 : Value), b0 = .bool b → K .normal ⟨#[.slice (some ⟨bl, off, none⟩) n c, u1, u2, .int .i64 k, u4, u5, u6, u7, u8, u9, v10, v11, v12, v13, v14, v15, v16, v17, v18, v19, v20, v21, v22, v23, v24, v25, v26, v27, v28, v29, v30, v31, v32, v33, v34, b0, u36, u37, u38], []⟩ (w.drewN nq)) :
    Code.wp Tryz.prog rq4C K ⟨#[.slice (some ⟨bl, off, none⟩) n c, u1, u2, .int .i64 k, u4, u5, u6, u7, u8, u9, u10, u11, u12, u13, u14, u15, u16, u17, u18, u19, u20, u21, u22, u23, u24, u25, u26, u27, u28, u29, u30, u31, u32, u33, u34, u35, u36, u37, u38], []⟩ w := by
  have HC := Lib.hid hC
  have HB := Lib.hid hb
  have i0 : (0 : Int) ≤ (k : Int) := by omega
  have i1 : (k : Int) < (n : Int) := by omega
  have i2 : (k : Int) ≤ (c : Int) := by omega
  clear hC hb hk hc
  conv => arg 2; whnf
  dsimp only at hK ⊢
  by_cases e1 : y < 1
  · obtain rfl : true = b := by rw [← HB.out]; simp [e1]
    clear HB HC
    go_quiet (fail)
    exact hK _ _ _ _ _ _ _ _ _ _ _ _ _ _ _ _ _ _ _ _ _ _ _ _ _ nq _ (by first | rfl | (simp; done) | (simp [e1]; done))
  by_cases e2 : 1099511627776 < y
  · obtain rfl : true = b := by rw [← HB.out]; simp [e2]
    clear HB HC
    have e3 : y > 1099511627776 := e2
    go_quiet (fail)
    exact hK _ _ _ _ _ _ _ _ _ _ _ _ _ _ _ _ _ _ _ _ _ _ _ _ _ nq _ (by first | rfl | (simp; done) | (simp [e1, e2]; done))
  by_cases e3 : k < 500
  · obtain rfl : hin = b := by rw [← HB.out]; simp [e1, e2, e3]
    clear HB
    have i5 : (k : Int) < 500 := by omega
    have e4 : ¬ y > 1099511627776 := e2
    cases hin with
    | true =>
      go_quiet (first | (go_at_call 55; refine (HC.out _ ((Keeps.refl [] w).drewN _)).mono ?_; rintro e w10 ⟨h1, h2⟩; exact ⟨h1, _, h2⟩))
      exact hK _ _ _ _ _ _ _ _ _ _ _ _ _ _ _ _ _ _ _ _ _ _ _ _ _ nq _ (by first | rfl | (simp; done) | (simp [e1, e2]; done))
    | false =>
      go_quiet (first | (go_at_call 55; refine (HC.out _ ((Keeps.refl [] w).drewN _)).mono ?_; rintro e w10 ⟨h1, h2⟩; exact ⟨h1, _, h2⟩))
      exact hK _ _ _ _ _ _ _ _ _ _ _ _ _ _ _ _ _ _ _ _ _ _ _ _ _ nq _ (by first | rfl | (simp; done) | (simp [e1, e2]; done))
  · obtain rfl : false = b := by rw [← HB.out]; simp [e1, e2, e3]
    clear HB HC
    have i5 : ¬ (k : Int) < 500 := by omega
    have e4 : ¬ y > 1099511627776 := e2
    go_quiet (fail)
    exact hK _ _ _ _ _ _ _ _ _ _ _ _ _ _ _ _ _ _ _ _ _ _ _ _ _ nq _ (by first | rfl | (simp; done) | (simp [e1, e2]; done))
set_option maxRecDepth 100000 in
set_option maxHeartbeats 3200000 in
theorem rightQ_any (w : World) (A : Option Addr) (L : List Int) (c : Nat) (hcap : L.length ≤ c) (ha : AtZ w A L) :
    Calls Tryz.prog 25 #[.slice A L.length c] w fun e w' => e = .returned (.bool (rightL L)) ∧ Keeps [] w w' := by
  have hm := ha.mx
  have HH : Hid (∀ W, Keeps [] w W → AtZ W A L) := Lib.hid (fun W k => ha.keep k)
  obtain ⟨V, hV⟩ : ∃ V, rightL L = V := ⟨_, rfl⟩
  rw [hV]
  have HV := Lib.hid hV
  clear ha hV
  go_enter Tryz.func25, Tryz.ntmps25
  go_wp2_with fail
  go_loopw [3] (fun iv wr => ∃ k : Nat, k ≤ L.length ∧ iv = .int .i64 k ∧ (∀ j (hj : j < L.length), j < k → okN L[j] = true ∧ (j < 500 → L[j] ∉ L.take j)) ∧ Keeps [] w wr) (fun iv _ => L.length - (intOf iv).toNat)
  case atStart => exact ⟨0, by omega, rfl, fun j hj h => absurd h (by omega), Keeps.refl _ _⟩
  case round =>
    obtain ⟨k, hk, rfl, hno, kp⟩ := hrel
    have HNO := Lib.hid hno
    have KP := Lib.hid kp
    clear hno kp
    by_cases hlt : k < L.length
    · obtain ⟨bl, off, hAA, hbl, hc⟩ := (HH.out wr KP.out).at_ (by omega)
      subst hAA
      have c0 := hc k hlt
      obtain ⟨y, hy⟩ : ∃ y, L[k] = y := ⟨_, rfl⟩
      rw [hy] at c0
      have HY := Lib.hid hy
      have lt : (L.take k).length = k := by rw [List.length_take]; omega
      have HAS : Hid (∀ W, Keeps [] w W → Calls Tryz.prog 55 #[.slice (some ⟨bl, off, none⟩) k c, .int .i64 y] W fun e w' => e = .returned (.bool (decide (y ∈ L.take k))) ∧ w' = W) := Lib.hid (fun W kW => by
        have h := has_any W (some ⟨bl, off, none⟩) (L.take k) c y ((HH.out W kW).take k)
        rw [lt] at h
        exact h)
      clear hc hy lt
      obtain ⟨b, hb⟩ : ∃ b, (decide (y < 1) || decide (1099511627776 < y) || (decide (k < 500) && decide (y ∈ L.take k))) = b := ⟨_, rfl⟩
      have HB := Lib.hid hb
      clear hb
      go_wp2_with fail
      go_upto_region 4 with fail
      refine rq4_any wr bl off L.length c k y (decide (y ∈ L.take k)) _ hlt hcap c0 (fun W kW => HAS.out W (KP.out.trans kW (by simp))) b HB.out _ _ _ _ _ _ _ _ _ _ _ _ _ _ _ _ _ _ _ _ _ _ _ _ _ _ _ _ _ _ _ _ _ _ _ _ _ ?_
      intro v10 v11 v12 v13 v14 v15 v16 v17 v18 v19 v20 v21 v22 v23 v24 v25 v26 v27 v28 v29 v30 v31 v32 v33 v34 nq b0 hb0
      subst hb0
      have KD := Lib.hid (KP.out.drewN nq)
      cases b with
      | true =>
        have eV : V = false := by
          rw [← HV.out]
          refine rightL_bad hlt ?_
          rw [HY.out]
          have h := HB.out
          simp only [Bool.or_eq_true, Bool.and_eq_true, decide_eq_true_eq] at h
          rcases h with (h | h) | h
          · left; unfold okN; rw [decide_eq_false (by omega)]; rfl
          · left; unfold okN; rw [decide_eq_false (show ¬ y ≤ 1099511627776 by omega), Bool.and_false]
          · exact .inr h.2
        have HE := Lib.hid eV
        clear eV
        go_wp2_with fail
        go_ret
        rw [HE.out]
        exact ⟨rfl, KD.out⟩
      | false =>
        go_wp2_with fail
        go_roundw
        case rel =>
          refine ⟨k + 1, by omega, by go_num, fun j hj hjk => ?_, KD.out⟩
          by_cases e : j = k
          · subst e
            rw [HY.out]
            have h := HB.out
            simp only [Bool.or_eq_false_iff, Bool.and_eq_false_iff, decide_eq_false_iff_not] at h
            obtain ⟨⟨h1, h2⟩, h3⟩ := h
            exact ⟨okN_iff.2 ⟨by omega, by omega⟩, fun h4 => h3.resolve_left (fun h => h h4)⟩
          · exact HNO.out j hj (by omega)
        case measure => simp [intOf]; omega
    · obtain rfl : k = L.length := by omega
      have eV : V = decide (L.length ≤ 500) := by rw [← HV.out]; exact rightL_end (fun j hj => (HNO.out j hj hj).1) (fun j hj => (HNO.out j hj hj).2)
      have HE := Lib.hid eV
      clear eV
      by_cases h5 : L.length ≤ 500
      · have i6 : (L.length : Int) ≤ 500 := by omega
        go_wp2_with fail
        go_ret
        rw [HE.out, decide_eq_true h5]
        exact ⟨rfl, KP.out⟩
      · have i6 : ¬ (L.length : Int) ≤ 500 := by omega
        go_wp2_with fail
        go_ret
        rw [HE.out, decide_eq_false h5]
        exact ⟨rfl, KP.out⟩
end Go.Proofs.YtcopjjokhjealaaGreat
