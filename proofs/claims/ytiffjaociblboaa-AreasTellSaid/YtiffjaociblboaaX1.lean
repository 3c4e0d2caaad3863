/- The walk of AreasFree. -/
import Derived.Test.YtiffjaociblboaaW22
namespace Go.Proofs.Ytiffjaociblboaa
open Go.RowKit

theorem vl_chn {L : List Ar} (h : Vl L = true) : chn 0 L = true ∧ L.length ≤ 16 := by
  unfold Vl at h
  rw [Bool.and_eq_true, decide_eq_true_eq] at h
  exact h
theorem vl_vds {L : List Ar} (h : Vl L = true) : Vds L := fun x hx => (chn_mem (vl_chn h).1 x hx).1
/-- The least free page found so far, above pg. -/
def LsB (L : List Ar) (n pg b : Int) : Prop :=
  (b = -1 ∧ ∀ s, pg < s → s + n ≤ 256 → ¬ FreeAt L n s) ∨ (pg < b ∧ 64 ≤ b ∧ b + n ≤ 256 ∧ FreeAt L n b ∧ ∀ s, pg < s → s < b → ¬ FreeAt L n s)
theorem LsB.no {L : List Ar} {n pg b : Int} (h : LsB L n pg b) (hf : ¬ FreeAt L n pg) : LsB L n (pg - 1) b := by
  rcases h with ⟨h1, h2⟩ | ⟨h1, h2, h3, h4, h5⟩
  · refine .inl ⟨h1, fun s a c => ?_⟩
    rcases Int.lt_or_le pg s with h | h
    · exact h2 s h c
    · obtain rfl : s = pg := by omega
      exact hf
  · refine .inr ⟨by omega, h2, h3, h4, fun s a c => ?_⟩
    rcases Int.lt_or_le pg s with h | h
    · exact h5 s h c
    · obtain rfl : s = pg := by omega
      exact hf
theorem LsB.yes {L : List Ar} {n pg : Int} (h1 : 64 ≤ pg) (h2 : pg + n ≤ 256) (hf : FreeAt L n pg) : LsB L n (pg - 1) pg :=
  .inr ⟨by omega, h1, h2, hf, fun s a c => absurd a (by omega)⟩
/-- The pages from pg to pg + i are free (f), or one of them is not. -/
def InB (L : List Ar) (pg i : Int) (f : Bool) : Prop := (f = true ∧ ∀ j, pg ≤ j → j < pg + i → fnd L j = none) ∨ (f = false ∧ ∃ j, pg ≤ j ∧ j < pg + i ∧ fnd L j ≠ none)
theorem InB.step {L : List Ar} {pg i : Int} (h : InB L pg i true) (hi : 0 ≤ i) : InB L pg (i + 1) (!(fnd L (pg + i)).isSome) := by
  rcases h with ⟨-, h⟩ | ⟨h, -⟩
  · cases hf : fnd L (pg + i) with
    | none =>
      refine .inl ⟨rfl, fun j a c => ?_⟩
      rcases Int.lt_or_le j (pg + i) with h1 | h1
      · exact h j a h1
      · obtain rfl : j = pg + i := by omega
        exact hf
    | some x => exact .inr ⟨rfl, pg + i, by omega, by omega, by rw [hf]; simp⟩
  · cases h
theorem InB.free {L : List Ar} {pg n : Int} (h : InB L pg n true) : FreeAt L n pg := by
  rcases h with ⟨-, h⟩ | ⟨h, -⟩
  · exact h
  · cases h
theorem InB.used {L : List Ar} {pg i n : Int} (h : InB L pg i false) (hi : i ≤ n) : ¬ FreeAt L n pg := by
  rcases h with ⟨h, -⟩ | ⟨-, j, h1, h2, h3⟩
  · cases h
  · exact fun hf => h3 (hf j h1 (by omega))
set_option maxRecDepth 1000000 in
set_option maxHeartbeats 6400000 in
theorem free_walk (w : World) (A : Option Addr) (c : Nat) (L : List Ar) (n : Int) (h : AtB w A L) :
    Calls Try.prog 4 #[.slice A L.length c, .int .i64 n] w fun e w' => e = .returned (.bool true) ∧ Keeps [] w w' := by
  have HB := Lib.hid h
  have hmx := h.mx
  obtain ⟨N, hN⟩ : ∃ N, nmd L = N := ⟨_, rfl⟩
  have HN := Lib.hid hN
  clear h hN
  go_enter Try.func4, Try.ntmps4
  go_wp2_with fail
  refine (small_any w).mono ?_
  rintro e w1 ⟨rfl, k1⟩
  have K1 := Lib.hid k1
  clear k1
  go_wp2_with fail
  have cn := named_big w1 A L c (HB.out.keep K1.out)
  rw [HN.out] at cn
  refine cn.mono ?_
  clear cn
  rintro e w1' ⟨rfl, rfl⟩
  cases N with
  | false =>
    go_wp2_with fail
    go_ret
    exact ⟨rfl, K1.out⟩
  | true =>
  have hl20 := nmd_len HN.out
  obtain ⟨V, hV⟩ : ∃ V, Vl L = V := ⟨_, rfl⟩
  have HV := Lib.hid hV
  have HA : Hid (∀ W, Keeps [] w W → AtL W A L) := Lib.hid (fun W k => (HB.out.keep k).atL (by have := nmd_len HN.out; omega))
  clear hV HB
  go_wp2_with fail
  have cv := Valid_any w1 A L c (HA.out _ K1.out)
  rw [HV.out] at cv
  refine cv.mono ?_
  clear cv
  rintro e w2 ⟨rfl, k2⟩
  have K2 : Hid (Keeps [] w w2) := Lib.hid (K1.out.trans k2 (by simp))
  clear k2 K1
  cases V with
  | false =>
    go_wp2_with fail
    go_ret
    exact ⟨rfl, K2.out⟩
  | true =>
  have hl16 := (vl_chn HV.out).2
  by_cases hn1 : n < 1
  · go_wp2_with fail
    go_ret
    exact ⟨rfl, K2.out⟩
  by_cases hn2 : 256 < n
  · go_wp2_with fail
    go_ret
    exact ⟨rfl, K2.out⟩
  have hn3 : 1 ≤ n := by omega
  have hn4 : n ≤ 256 := by omega
  clear hn1 hn2
  obtain ⟨P, hP⟩ : ∃ P, (freeV L n).1 = P := ⟨_, rfl⟩
  obtain ⟨B, hB⟩ : ∃ B, (freeV L n).2 = B := ⟨_, rfl⟩
  have HPB := Lib.hid (And.intro hP hB)
  clear hP hB
  go_wp2_with fail
  have cf := free_any w2 A L c n (HA.out _ K2.out) (vl_vds HV.out)
  rw [HPB.out.1, HPB.out.2] at cf
  refine cf.mono ?_
  clear cf
  rintro e w3 ⟨rfl, k3⟩
  have K3 : Hid (Keeps [] w w3) := Lib.hid (K2.out.trans k3 (by simp))
  clear k3 K2
  go_wp2_with fail
  go_loopw [8, 9] (fun b p wr => ∃ bb pg : Int, b = .int .i64 bb ∧ p = .int .i64 pg ∧ 0 ≤ pg ∧ pg + n ≤ 256 ∧ LsB L n pg bb ∧ Keeps [] w wr) (fun _ p _ => (intOf p).toNat)
  case atStart => exact ⟨-1, 256 - n, rfl, rfl, by omega, by omega, .inl ⟨rfl, fun s h1 h2 => absurd h2 (by omega)⟩, K3.out⟩
  case round =>
    obtain ⟨bb, pg, rfl, rfl, hpg0, hpgn, hls, kp⟩ := hrel
    have HL := Lib.hid hls
    have KP := Lib.hid kp
    clear hls kp K3
    by_cases hge : 64 ≤ pg
    · go_wp2_with fail
      go_loopw [10, 11] (fun f i wr2 => ∃ (fb : Bool) (q : Int), f = .bool fb ∧ i = .int .i64 q ∧ 0 ≤ q ∧ q ≤ n ∧ InB L pg q fb ∧ Keeps [] w wr2) (fun _ i _ => (n - intOf i).toNat)
      case atStart => exact ⟨true, 0, rfl, rfl, by omega, by omega, .inl ⟨rfl, fun j a b => absurd b (by omega)⟩, KP.out⟩
      case round =>
        obtain ⟨fb, q, rfl, rfl, hq0, hqn, hin, kp2⟩ := hrel
        have HI := Lib.hid hin
        have KP2 := Lib.hid kp2
        clear hin kp2 KP
        cases fb with
        | false =>
          have HNO : Hid (LsB L n (pg - 1) bb) := Lib.hid (HL.out.no (HI.out.used hqn))
          clear HL HI
          by_cases hq : q < n
          · go_wp2_with fail
            go_roundw
            case rel => exact ⟨bb, pg - 1, rfl, by go_num, by omega, by omega, HNO.out, KP2.out⟩
            case measure => simp [intOf]; omega
          · go_wp2_with fail
            go_roundw
            case rel => exact ⟨bb, pg - 1, rfl, by go_num, by omega, by omega, HNO.out, KP2.out⟩
            case measure => simp [intOf]; omega
        | true =>
          by_cases hq : q < n
          · obtain ⟨Z, hZ⟩ : ∃ Z, fndV L (pg + q) = Z := ⟨_, rfl⟩
            obtain ⟨F, hF⟩ : ∃ F, (fnd L (pg + q)).isSome = F := ⟨_, rfl⟩
            have hs := HI.out.step hq0
            have cf := find_any wr A L c (pg + q) (HA.out _ KP2.out) (vl_vds HV.out)
            rw [hZ, hF] at cf
            rw [hF] at hs
            unfold Ar.v at cf
            have CF := Lib.hid cf
            have HS := Lib.hid hs
            clear cf hs hZ hF HI
            go_wp2_with fail
            refine CF.out.mono ?_
            rintro e w5 ⟨rfl, k5⟩
            have K5 : Hid (Keeps [] w w5) := Lib.hid (KP2.out.trans k5 (by simp))
            clear CF k5
            go_wp2_with fail
            go_roundw
            case rel => exact ⟨!F, q + 1, rfl, by go_num, by omega, by omega, HS.out, K5.out.alloc _⟩
            case measure => simp [intOf]; omega
          · obtain rfl : q = n := by omega
            have HY : Hid (LsB L q (pg - 1) pg) := Lib.hid (LsB.yes hge hpgn HI.out.free)
            clear HL HI
            go_wp2_with fail
            go_roundw
            case rel => exact ⟨pg, pg - 1, rfl, by go_num, by omega, by omega, HY.out, KP2.out⟩
            case measure => simp [intOf]; omega
    · have hfin : (bb = -1 ∧ P = 0 ∧ B = false) ∨ (64 ≤ bb ∧ bb + n ≤ 256 ∧ P = bb ∧ B = true ∧ FreeAt L n bb) := by
        have hc := (vl_chn HV.out).1
        obtain ⟨e1, e2⟩ := HPB.out
        rcases HL.out with ⟨h1, h2⟩ | ⟨h1, h2, h3, h4, h5⟩
        · rw [freeV_none hc hn3 hn4 (fun s a b => h2 s (by omega) b)] at e1 e2
          exact .inl ⟨h1, e1.symm, e2.symm⟩
        · rw [freeV_some hc hn3 hn4 h2 h3 h4 (fun s a b => h5 s (by omega) b)] at e1 e2
          exact .inr ⟨h2, h3, e1.symm, e2.symm, h4⟩
      clear HPB HL
      rcases hfin with ⟨rfl, rfl, rfl⟩ | ⟨hb1, hb2, rfl, rfl, hfr⟩
      · go_wp2_with fail
        go_ret
        exact ⟨rfl, KP.out⟩
      · have HFR := Lib.hid hfr
        have hvx : vld ⟨P, n, ⟨#[120]⟩, 0, false, false⟩ = true := vld_iff.2 ⟨by simp only; omega, hn3, hn4, by simp only; omega, by simp only; omega, by simp only; omega, by show (⟨#[120]⟩ : ByteArray).toList.isEmpty = false; kernel_rfl⟩
        have hcl : clash ⟨P, n, ⟨#[120]⟩, 0, false, false⟩ L = false := by
          cases hc : clash ⟨P, n, ⟨#[120]⟩, 0, false, false⟩ L with
          | false => rfl
          | true =>
            obtain ⟨p, h1, h2, h3⟩ := (clash_iff (vld_iff.1 hvx) (vl_chn HV.out).1).1 hc
            rw [HFR.out p h1 h2] at h3
            cases h3
        have hmE : mapE ⟨P, n, ⟨#[120]⟩, 0, false, false⟩ L = if 16 ≤ L.length then 6 else 0 := by
          unfold mapE
          rw [hvx, hcl]
          rfl
        have HME := Lib.hid hmE
        clear hmE hcl hvx hfr HFR
        go_wp2_with fail
        refine (map_any wr A L c ⟨P, n, ⟨#[120]⟩, 0, false, false⟩ (HA.out _ KP.out) (vl_vds HV.out)).mono ?_
        intro e w6 hm
        rcases hm with ⟨h1, v6, rfl, o6⟩ | ⟨h1, rfl, k6⟩
        · have K6 : Hid (Keeps [] w w6) := Lib.hid (KP.out.trans o6.2.1 (by simp))
          clear o6
          go_wp2_with fail
          go_ret
          exact ⟨rfl, K6.out⟩
        · have hl : L.length = 16 := by
            rw [HME.out] at h1
            split at h1
            · omega
            · exact absurd rfl h1
          have K6 : Hid (Keeps [] w w6) := Lib.hid (KP.out.trans k6 (by simp))
          rw [HME.out, if_pos (by omega), hl]
          clear k6 h1 HME
          go_wp2_with fail
          go_ret
          exact ⟨rfl, K6.out⟩
end Go.Proofs.Ytiffjaociblboaa
