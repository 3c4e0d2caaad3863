/- Free and the reference's Free. -/
import Derived.Test.YtiffjaociblboaaW8
import Derived.Deep.Cut
namespace Go.Proofs.Ytiffjaociblboaa
open Go.RowKit

theorem frP_drop {n Q : Int} {L : List Ar} {k : Nat} (hk : k < L.length) : frP n Q (L.drop k) = if L[k].a + L[k].n ≤ Q then frP n Q (L.drop (k + 1)) else if n ≤ L[k].a - Q then Q else frP n (L[k].a + L[k].n) (L.drop (k + 1)) := by
  rw [List.drop_eq_getElem_cons hk]; rfl
set_option maxRecDepth 100000 in
set_option maxHeartbeats 3200000 in
theorem free_any (w : World) (A : Option Addr) (L : List Ar) (c : Nat) (n : Int) (ha : AtL w A L) (hv : Vds L) :
    Calls Try.prog 14 #[.slice A L.length c, .int .i64 n] w fun e w' => e = .returned (.tuple #[.int .i64 (freeV L n).1, .bool (freeV L n).2]) ∧ Keeps [] w w' := by
  have hm := ha.mx
  have HH := Lib.hid ha
  have HVd := Lib.hid hv
  obtain ⟨V1, hV1⟩ : ∃ V, (freeV L n).1 = V := ⟨_, rfl⟩
  obtain ⟨V2, hV2⟩ : ∃ V, (freeV L n).2 = V := ⟨_, rfl⟩
  rw [hV1, hV2]
  have HV := Lib.hid (And.intro hV1 hV2)
  clear ha hv hV1 hV2
  by_cases g1 : n < 1
  · have HE : Hid (V1 = 0 ∧ V2 = false) := Lib.hid (by rw [← HV.out.1, ← HV.out.2, freeV_bad (.inl g1)]; exact ⟨rfl, rfl⟩)
    go_enter Try.func14, Try.ntmps14
    go_wp2_with fail
    go_ret2
    rw [HE.out.1, HE.out.2]
    exact ⟨rfl, Keeps.refl _ _⟩
  by_cases g2 : 256 < n
  · have HE : Hid (V1 = 0 ∧ V2 = false) := Lib.hid (by rw [← HV.out.1, ← HV.out.2, freeV_bad (.inr g2)]; exact ⟨rfl, rfl⟩)
    have g1' : 1 ≤ n := by omega
    clear g1
    go_enter Try.func14, Try.ntmps14
    go_wp2_with fail
    go_ret2
    rw [HE.out.1, HE.out.2]
    exact ⟨rfl, Keeps.refl _ _⟩
  have g1' : 1 ≤ n := by omega
  have g2' : n ≤ 256 := by omega
  clear g1 g2
  go_enter Try.func14, Try.ntmps14
  go_wp2_with fail
  go_loopw [6, 17] (fun q i wr => ∃ (k : Nat) (Q : Int), k ≤ L.length ∧ i = .int .i64 k ∧ q = .int .i64 Q ∧ 64 ≤ Q ∧ Q ≤ 256 ∧ frP n 64 L = frP n Q (L.drop k) ∧ Keeps [] w wr) (fun _ i _ => L.length - (intOf i).toNat)
  case atStart => exact ⟨0, 64, by omega, rfl, rfl, by omega, by omega, by rw [List.drop_zero], Keeps.refl _ _⟩
  case round =>
    obtain ⟨k, Q, hk, rfl, rfl, hQ0, hQ1, hfr, kp⟩ := hrel
    have HF := Lib.hid hfr
    have HK := Lib.hid kp
    clear hfr
    by_cases hlt : k < L.length
    · obtain ⟨bl, off, rfl, hbl, hc⟩ := (HH.out.keep kp).at_ (by omega)
      obtain ⟨c0, c1, c2, c3, c4, c5⟩ := hc k hlt
      have hvk := HVd.out _ (List.getElem_mem hlt)
      have hd := HF.out
      rw [frP_drop hlt] at hd
      obtain ⟨x, hx⟩ : ∃ x, L[k] = x := ⟨_, rfl⟩
      rw [hx] at c0 c1 c2 c3 c4 c5 hvk hd
      have q1 := hvk.a0
      have q2 := hvk.n1
      have q3 := hvk.n2
      have q4 := hvk.an
      have HD := Lib.hid hd
      have HK2 : Hid (Keeps [] w (wr.alloc (.cells #[.int .i64 x.a, .int .i64 x.n, .string x.o, .int .i64 x.f, .bool x.s, .bool x.w] 24))) := Lib.hid (kp.alloc _)
      clear hx hvk hc hd kp hbl
      by_cases e1 : x.a + x.n ≤ Q
      · have hn : frP n 64 L = frP n Q (L.drop (k + 1)) := by rw [HD.out, if_pos e1]
        have HN := Lib.hid hn
        clear hn
        go_wp2_with fail
        go_roundw
        case rel => exact ⟨k + 1, Q, by omega, by go_num, rfl, by omega, by omega, HN.out, HK2.out⟩
        case measure => simp [intOf]; omega
      have e1' : Q < x.a + x.n := by omega
      by_cases e2 : n ≤ x.a - Q
      · have HQ : Hid (frP n 64 L = Q) := Lib.hid (by rw [HD.out, if_neg e1, if_pos e2])
        clear e1
        have HFQ := Lib.hid (show frP n 64 L = Q from HQ.out)
        go_upto_region 11 with fail
        by_cases z : 256 - n < Q
        · have HE : Hid (V1 = 0 ∧ V2 = false) := Lib.hid (by
            have h1 := HV.out.1
            have h2 := HV.out.2
            unfold freeV at h1 h2
            rw [if_neg (by omega), HFQ.out, if_pos z] at h1 h2
            exact ⟨h1.symm, h2.symm⟩)
          go_wp2_with fail
          go_ret2
          rw [HE.out.1, HE.out.2]
          exact ⟨rfl, HK2.out⟩
        · have z' : Q ≤ 256 - n := by omega
          have HE : Hid (V1 = Q ∧ V2 = true) := Lib.hid (by
            have h1 := HV.out.1
            have h2 := HV.out.2
            unfold freeV at h1 h2
            rw [if_neg (by omega), HFQ.out, if_neg z] at h1 h2
            exact ⟨h1.symm, h2.symm⟩)
          clear z
          go_wp2_with fail
          go_ret2
          rw [HE.out.1, HE.out.2]
          exact ⟨rfl, HK2.out⟩
      · have hn : frP n 64 L = frP n (x.a + x.n) (L.drop (k + 1)) := by rw [HD.out, if_neg e1, if_neg e2]
        have HN := Lib.hid hn
        have e2' : x.a - Q < n := by omega
        clear hn e1 e2
        go_wp2_with fail
        go_roundw
        case rel => exact ⟨k + 1, x.a + x.n, by omega, by go_num, rfl, by omega, by omega, HN.out, HK2.out⟩
        case measure => simp [intOf]; omega
    · obtain rfl : k = L.length := by omega
      have HQ : Hid (frP n 64 L = Q) := Lib.hid (by rw [HF.out, List.drop_length]; rfl)
      clear kp
      have HFQ := Lib.hid (show frP n 64 L = Q from HQ.out)
      go_upto_region 11 with fail
      by_cases z : 256 - n < Q
      · have HE : Hid (V1 = 0 ∧ V2 = false) := Lib.hid (by
          have h1 := HV.out.1
          have h2 := HV.out.2
          unfold freeV at h1 h2
          rw [if_neg (by omega), HFQ.out, if_pos z] at h1 h2
          exact ⟨h1.symm, h2.symm⟩)
        go_wp2_with fail
        go_ret2
        rw [HE.out.1, HE.out.2]
        exact ⟨rfl, HK.out⟩
      · have z' : Q ≤ 256 - n := by omega
        have HE : Hid (V1 = Q ∧ V2 = true) := Lib.hid (by
          have h1 := HV.out.1
          have h2 := HV.out.2
          unfold freeV at h1 h2
          rw [if_neg (by omega), HFQ.out, if_neg z] at h1 h2
          exact ⟨h1.symm, h2.symm⟩)
        clear z
        go_wp2_with fail
        go_ret2
        rw [HE.out.1, HE.out.2]
        exact ⟨rfl, HK.out⟩

set_option maxRecDepth 100000 in
set_option maxHeartbeats 3200000 in
theorem rfree_any (w : World) (A : Option Addr) (L : List Ar) (c : Nat) (n e0 : Int) (ha : AtL w A L) (hv : Vds L) (hch : chn e0 L = true) :
    Calls Try.prog 19 #[.slice A L.length c, .int .i64 n] w fun e w' => e = .returned (.tuple #[.int .i64 (freeV L n).1, .bool (freeV L n).2]) ∧ Keeps [] w w' := by
  have HH := Lib.hid ha
  have HVd := Lib.hid hv
  have HC := Lib.hid hch
  obtain ⟨V1, hV1⟩ : ∃ V, (freeV L n).1 = V := ⟨_, rfl⟩
  obtain ⟨V2, hV2⟩ : ∃ V, (freeV L n).2 = V := ⟨_, rfl⟩
  rw [hV1, hV2]
  have HV := Lib.hid (And.intro hV1 hV2)
  clear ha hv hV1 hV2 hch
  by_cases g1 : n < 1
  · have HE : Hid (V1 = 0 ∧ V2 = false) := Lib.hid (by rw [← HV.out.1, ← HV.out.2, freeV_bad (.inl g1)]; exact ⟨rfl, rfl⟩)
    go_enter Try.func19, Try.ntmps19
    go_wp2_with fail
    go_ret2
    rw [HE.out.1, HE.out.2]
    exact ⟨rfl, Keeps.refl _ _⟩
  by_cases g2 : 256 < n
  · have HE : Hid (V1 = 0 ∧ V2 = false) := Lib.hid (by rw [← HV.out.1, ← HV.out.2, freeV_bad (.inr g2)]; exact ⟨rfl, rfl⟩)
    have g1' : 1 ≤ n := by omega
    clear g1
    go_enter Try.func19, Try.ntmps19
    go_wp2_with fail
    go_ret2
    rw [HE.out.1, HE.out.2]
    exact ⟨rfl, Keeps.refl _ _⟩
  have g1' : 1 ≤ n := by omega
  have g2' : n ≤ 256 := by omega
  clear g1 g2
  go_enter Try.func19, Try.ntmps19
  go_wp2_with fail
  go_loopw [6, 7] (fun r i wr => ∃ q R : Int, 64 ≤ q ∧ q ≤ 256 ∧ i = .int .i64 q ∧ r = .int .i64 R ∧ 0 ≤ R ∧ R < n ∧ 64 ≤ q - R ∧ (∀ j, q - R ≤ j → j < q → fnd L j = none) ∧ (∀ s, 64 ≤ s → s < q - R → ¬ FreeAt L n s) ∧ Keeps [] w wr) (fun _ i _ => (256 - intOf i).toNat)
  case atStart => exact ⟨64, 0, by omega, by omega, rfl, rfl, by omega, by omega, by omega, fun j h1 h2 => by omega, fun s h1 h2 => by omega, Keeps.refl _ _⟩
  case round =>
    obtain ⟨q, R, hq0, hq1, rfl, rfl, hR0, hR1, hqR, hfr, hno, kp⟩ := hrel
    have HF := Lib.hid (And.intro hfr hno)
    have HK := Lib.hid kp
    clear hfr hno
    by_cases hlt : q < 256
    · have C1 := rfind_any wr A L c q (HH.out.keep HK.out) HVd.out
      cases hx : fnd L q with
      | some x =>
        rw [fndV_some hx, hx] at C1
        unfold Ar.v at C1
        have HC1 := Lib.hid C1
        have HX := Lib.hid hx
        clear hx C1 kp
        go_wp2_with fail
        refine HC1.out.mono ?_
        rintro e w1 ⟨rfl, k1⟩
        have K1 := Lib.hid ((HK.out.trans k1 (by simp)).alloc (.cells #[.int .i64 x.a, .int .i64 x.n, .string x.o, .int .i64 x.f, .bool x.s, .bool x.w] 24))
        clear k1 HC1
        go_wp2_with fail
        go_roundw
        case rel => exact ⟨q + 1, 0, by omega, by omega, rfl, rfl, by omega, by omega, by omega, fun j h1 h2 => by omega, (fun s h1 h2 hs => by
          by_cases e1 : s < q - R
          · exact HF.out.2 s h1 e1 hs
          · have := hs q (by omega) (by omega)
            rw [HX.out] at this
            cases this), K1.out⟩
        case measure => simp [intOf]; omega
      | none =>
        rw [fndV_none hx, hx] at C1
        unfold Ar.v zA at C1
        have HC1 := Lib.hid C1
        have HX := Lib.hid hx
        have HR1 : Hid (∀ j, q - R ≤ j → j < q + 1 → fnd L j = none) := Lib.hid (fun j h1 h2 => by
          by_cases e : j = q
          · rw [e]; exact HX.out
          · exact HF.out.1 j h1 (by omega))
        clear hx C1 kp
        by_cases hRn : R + 1 = n
        · have HE : Hid (V1 = q - n + 1 ∧ V2 = true) := Lib.hid (by
            rw [← HV.out.1, ← HV.out.2, freeV_some HC.out g1' g2' (s := q - n + 1) (by omega) (by omega) (fun i h1 h2 => HR1.out i (by omega) (by omega)) (fun t h1 h2 => HF.out.2 t h1 (by omega))]
            exact ⟨rfl, rfl⟩)
          go_wp2_with fail
          refine HC1.out.mono ?_
          rintro e w1 ⟨rfl, k1⟩
          have K1 := Lib.hid ((HK.out.trans k1 (by simp)).alloc (.cells #[.int .i64 0, .int .i64 0, .string ⟨#[]⟩, .int .i64 0, .bool false, .bool false] 24))
          clear k1 HC1
          go_wp2_with fail
          go_ret2
          rw [HE.out.1, HE.out.2]
          exact ⟨rfl, K1.out⟩
        · have hRn' : R + 1 < n := by omega
          have HRb : Hid ((R + 1 == n) = false) := Lib.hid (by simpa using hRn)
          clear hRn
          go_wp2_with fail
          refine HC1.out.mono ?_
          rintro e w1 ⟨rfl, k1⟩
          have K1 := Lib.hid ((HK.out.trans k1 (by simp)).alloc (.cells #[.int .i64 0, .int .i64 0, .string ⟨#[]⟩, .int .i64 0, .bool false, .bool false] 24))
          have hb := HRb.out
          have hne : ¬ (R + 1 = n) := by omega
          clear k1 HC1
          go_wp2_with fail
          go_roundw
          case rel => exact ⟨q + 1, R + 1, by omega, by omega, rfl, rfl, by omega, by omega, by omega, fun j h1 h2 => HR1.out j (by omega) (by omega), fun s h1 h2 => HF.out.2 s h1 (by omega), K1.out⟩
          case measure => simp [intOf]; omega
    · obtain rfl : q = 256 := by omega
      have HE : Hid (V1 = 0 ∧ V2 = false) := Lib.hid (by
        rw [← HV.out.1, ← HV.out.2, freeV_none HC.out g1' g2' (fun s h1 h2 hs => by
          by_cases e1 : s < 256 - R
          · exact HF.out.2 s h1 e1 hs
          · omega)]
        exact ⟨rfl, rfl⟩)
      clear kp
      go_wp2_with fail
      go_ret2
      rw [HE.out.1, HE.out.2]
      exact ⟨rfl, HK.out⟩
end Go.Proofs.Ytiffjaociblboaa
