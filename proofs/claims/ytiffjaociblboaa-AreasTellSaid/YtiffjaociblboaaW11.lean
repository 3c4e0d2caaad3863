/- The reference's Valid. -/
import Derived.Test.YtiffjaociblboaaW10
namespace Go.Proofs.Ytiffjaociblboaa
open Go.RowKit

set_option maxRecDepth 100000 in
set_option maxHeartbeats 3200000 in
theorem rValid_any (w : World) (A : Option Addr) (L : List Ar) (c : Nat) (h : AtL w A L) :
    Calls Try.prog 15 #[.slice A L.length c] w fun e w' => e = .returned (.bool (Vl L)) ∧ Keeps [] w w' := by
  have hm := h.mx
  have HH := Lib.hid h
  obtain ⟨V, hV⟩ : ∃ V, Vl L = V := ⟨_, rfl⟩
  rw [hV]
  have HV := Lib.hid hV
  clear h hV
  go_enter Try.func15, Try.ntmps15
  go_wp2_with fail
  go_loopw [3] (fun i wr => ∃ (k : Nat) (E : Int), k ≤ L.length ∧ i = .int .i64 k ∧ chn 0 L = chn E (L.drop k) ∧ ((k = 0 ∧ E = 0) ∨ ∃ j, ∃ hj : j < L.length, k = j + 1 ∧ E = L[j].a + L[j].n ∧ Vd L[j]) ∧ Keeps [] w wr) (fun i _ => L.length - (intOf i).toNat)
  case atStart => exact ⟨0, 0, by omega, rfl, by rw [List.drop_zero], .inl ⟨rfl, rfl⟩, Keeps.refl _ _⟩
  case round =>
    obtain ⟨k, E, hk, rfl, hch, hE, kp⟩ := hrel
    have HCH := Lib.hid hch
    have HK := Lib.hid kp
    have HE := Lib.hid hE
    clear hch hE
    by_cases hlt : k < L.length
    · obtain ⟨bl, off, rfl, hbl, hc⟩ := (HH.out.keep kp).at_ (by omega)
      have hd := HCH.out
      rw [chn_drop hlt] at hd
      obtain ⟨x, hx⟩ : ∃ x, L[k] = x := ⟨_, rfl⟩
      have HC := Lib.hid (fun (W : World) (kW : Keeps [] wr W) => ((HH.out.keep kp).keep kW).cells hlt)
      rw [hx] at hd HC
      have HX := Lib.hid hx
      have hv := fun W => rvalid_any W x
      unfold Ar.v at hv
      have HD := Lib.hid hd
      clear hc kp hd hbl hx
      obtain ⟨I, hI⟩ : ∃ I, vld x = I := ⟨_, rfl⟩
      rw [hI] at hv
      have HVA := Lib.hid hv
      have HI := Lib.hid hI
      clear hv hI
      cases I with
      | false =>
        have eV : Hid (V = false) := Lib.hid (by rw [← HV.out]; unfold Vl; rw [HD.out, HI.out]; rfl)
        go_upto_region 4 with fail
        refine rv1_any wr bl off L.length c k x _ HC.out HVA.out hm hlt _ _ _ _ _ _ _ _ _ _ _ _ _ _ _ _ _ _ _ _ _ _ _ _ _ _ _ _ _ _ _ _ _ _ _ _ _ _ _ _ _ _ _ _ ?_
        intro v10 v11 v12 v13 v14 v15 v16 v17 v18 v19 v20 v21 v22 v23 v24 v25 v26 v27 v28 v29 v30 v31 v32 v33 v34 v35 v36 v37 v38 v39 v40 v41 W kW
        have K2 := Lib.hid (HK.out.trans kW (by simp))
        clear kW
        go_wp2_with fail
        go_ret
        exact ⟨ret_bool eV.out.symm, K2.out⟩
      | true =>
        have hvd := vld_iff.1 HI.out
        have HVD := Lib.hid hvd
        have h1 := hvd.a0
        have h2 := hvd.n1
        have h3 := hvd.n2
        have h4 := hvd.an
        clear hvd
        rcases HE.out with ⟨hk0, hE0⟩ | ⟨j, hj, hkj, hEj, hvj⟩
        · subst hk0
          have hn : chn 0 L = chn (x.a + x.n) (L.drop (0 + 1)) := by rw [HD.out, HI.out, hE0, decide_eq_true h1]; rfl
          have HN := Lib.hid hn
          clear hn hE0
          go_upto_region 4 with fail
          refine rv2_any wr bl off L.length c x _ (fun W kW => by have := HC.out W kW; simpa using this) HVA.out hm hlt _ _ _ _ _ _ _ _ _ _ _ _ _ _ _ _ _ _ _ _ _ _ _ _ _ _ _ _ _ _ _ _ _ _ _ _ _ _ _ _ _ _ _ _ ?_
          intro v10 v11 v12 v13 v14 v15 v16 v17 v18 v19 v20 v21 v22 v23 v24 v25 v26 v27 v28 v29 v30 v31 v32 v33 v34 v35 v36 v37 v38 v39 v40 v41 W kW
          have K2 := Lib.hid (HK.out.trans kW (by simp))
          clear kW
          go_wp2_with fail
          go_roundw
          case rel => exact ⟨1, x.a + x.n, by omega, rfl, HN.out, .inr ⟨0, hlt, rfl, by rw [HX.out], by rw [HX.out]; exact HVD.out⟩, K2.out⟩
          case measure => simp [intOf]; omega
        · subst hkj
          obtain ⟨y, hy⟩ : ∃ y, L[j] = y := ⟨_, rfl⟩
          rw [hy] at hEj hvj
          have HCy := Lib.hid (fun (W : World) (kW : Keeps [] wr W) => (((HH.out.keep HK.out).keep kW).cells hj))
          rw [hy] at HCy
          have y1 := hvj.a0
          have y2 := hvj.n1
          have y3 := hvj.n2
          have y4 := hvj.an
          obtain ⟨d, hd⟩ : ∃ d, decide (x.a < y.a + y.n) = d := ⟨_, rfl⟩
          have HDD := Lib.hid hd
          have HEJ := Lib.hid hEj
          clear hvj hy hd hEj
          go_upto_region 4 with fail
          refine rv3_any wr bl off L.length c j x y _ (fun W kW => by
            obtain ⟨a0, a1, a2, a3, a4, a5⟩ := HC.out W kW
            obtain ⟨e0, e1, e2, e3, e4, e5⟩ := HCy.out W kW
            exact ⟨a0, a1, a2, a3, a4, a5, e0, e1, e2, e3, e4, e5⟩) HVA.out hm hlt y1 (by omega) y2 y3 _ _ _ _ _ _ _ _ _ _ _ _ _ _ _ _ _ _ _ _ _ _ _ _ _ _ _ _ _ _ _ _ _ _ _ _ _ _ _ _ _ _ _ _ ?_
          intro v10 v11 v12 v13 v14 v15 v16 v17 v18 v19 v20 v21 v22 v23 v24 v25 v26 v27 v28 v29 v30 v31 v32 v33 v34 v35 v36 v37 v38 v39 v40 v41 W kW
          rw [HDD.out]
          have K2 := Lib.hid (HK.out.trans kW (by simp))
          clear kW
          cases d with
          | true =>
            have eV : Hid (V = false) := Lib.hid (by rw [← HV.out]; unfold Vl; rw [HD.out, HI.out, HEJ.out, decide_eq_false (by have := of_decide_eq_true HDD.out; omega)]; rfl)
            go_wp2_with fail
            go_ret
            exact ⟨ret_bool eV.out.symm, K2.out⟩
          | false =>
            have hn : Hid (chn 0 L = chn (x.a + x.n) (L.drop (j + 1 + 1))) := Lib.hid (by rw [HD.out, HI.out, HEJ.out, decide_eq_true (by have := of_decide_eq_false HDD.out; omega)]; rfl)
            go_wp2_with fail
            go_roundw
            case rel => exact ⟨j + 1 + 1, x.a + x.n, by omega, by go_num, hn.out, .inr ⟨j + 1, hlt, rfl, by rw [HX.out], by rw [HX.out]; exact HVD.out⟩, K2.out⟩
            case measure => simp [intOf]; omega
    · obtain rfl : k = L.length := by omega
      have hc := HCH.out
      rw [List.drop_length] at hc
      have eV : Hid (V = decide (L.length ≤ 16)) := Lib.hid (by rw [← HV.out]; unfold Vl; rw [hc]; rfl)
      clear hc kp
      go_wp2_with fail
      go_ret
      rw [eV.out]
      exact ⟨ret_bool (by simp; omega), HK.out⟩
end Go.Proofs.Ytiffjaociblboaa
