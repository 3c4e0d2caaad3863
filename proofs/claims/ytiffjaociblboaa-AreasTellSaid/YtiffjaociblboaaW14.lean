/- Map. -/
import Derived.Test.YtiffjaociblboaaW13
namespace Go.Proofs.Ytiffjaociblboaa
open Go.RowKit

def MapP (w : World) (A : Option Addr) (L : List Ar) (c : Nat) (x : Ar) (e : Ending) (w' : World) : Prop :=
  (mapE x L = 0 ∧ ∃ v, e = .returned (.tuple #[v, .int .i64 0]) ∧ OwnL w w' v (insA x L)) ∨
  (mapE x L ≠ 0 ∧ e = .returned (.tuple #[.slice A L.length c, .int .i64 (mapE x L)]) ∧ Keeps [] w w')
set_option maxRecDepth 1000000 in
set_option maxHeartbeats 6400000 in
theorem map_any (w : World) (A : Option Addr) (L : List Ar) (c : Nat) (x : Ar) (ha : AtL w A L) (hv : Vds L) :
    Calls Try.prog 9 #[.slice A L.length c, .agg #[.int .i64 x.a, .int .i64 x.n, .string x.o, .int .i64 x.f, .bool x.s, .bool x.w]] w (MapP w A L c x) := by
  have hm := ha.mx
  have HH := Lib.hid ha
  have HV := Lib.hid hv
  have hva := valid_any (w.alloc (.cells #[.int .i64 x.a, .int .i64 x.n, .string x.o, .int .i64 x.f, .bool x.s, .bool x.w] 24)) x
  unfold Ar.v at hva
  have bx := Blk.new w 24 #[.int .i64 x.a, .int .i64 x.n, .string x.o, .int .i64 x.f, .bool x.s, .bool x.w]
  have HBX := Lib.hid bx
  obtain ⟨I, hI⟩ : ∃ I, vld x = I := ⟨_, rfl⟩
  rw [hI] at hva
  have HVA := Lib.hid hva
  have HVX := Lib.hid hI
  clear ha hv hva hI bx
  cases I with
  | false =>
    have eE : Hid (mapE x L = 3) := Lib.hid (by unfold mapE; rw [HVX.out]; rfl)
    go_enter Try.func9, Try.ntmps9
    go_wp2_with fail
    refine HVA.out.mono ?_
    rintro e w1 ⟨rfl, k1⟩
    have K1 : Hid (Keeps [] w w1) := Lib.hid (((Keeps.refl [] w).alloc (.cells #[.int .i64 x.a, .int .i64 x.n, .string x.o, .int .i64 x.f, .bool x.s, .bool x.w] 24)).trans k1 (by simp))
    clear k1 HVA
    go_wp2_with fail
    go_ret2
    exact .inr ⟨by rw [eE.out]; omega, by rw [eE.out]; rfl, K1.out⟩
  | true =>
    have hvx := vld_iff.1 HVX.out
    have x1 := hvx.a0
    have x2 := hvx.n1
    have x3 := hvx.n2
    have x4 := hvx.an
    clear hvx
    go_enter Try.func9, Try.ntmps9
    go_wp2_with fail
    refine HVA.out.mono ?_
    rintro e w1 ⟨rfl, k1⟩
    have K1 : Hid (Keeps [] w w1) := Lib.hid (((Keeps.refl [] w).alloc (.cells #[.int .i64 x.a, .int .i64 x.n, .string x.o, .int .i64 x.f, .bool x.s, .bool x.w] 24)).trans k1 (by simp))
    have B1 := Lib.hid (HBX.out.keep k1 (by simp))
    clear k1 HVA HBX
    go_wp2_with fail
    go_loopw [6] (fun i wr => ∃ k : Nat, k ≤ L.length ∧ i = .int .i64 k ∧ (∀ j (hj : j < L.length), j < k → L[j].a < x.a) ∧ Blk wr w.heap.size 24 #[.int .i64 x.a, .int .i64 x.n, .string x.o, .int .i64 x.f, .bool x.s, .bool x.w] ∧ Keeps [] w wr) (fun i _ => L.length - (intOf i).toNat)
    case atStart => exact ⟨0, by omega, rfl, fun j hj h => absurd h (by omega), B1.out, K1.out⟩
    case round =>
      clear B1 K1
      obtain ⟨k, hk, rfl, hst, hb, hkp⟩ := hrel
      have HST := Lib.hid hst
      have HB := Lib.hid hb
      have HK := Lib.hid hkp
      clear hst hb hkp
      by_cases hlt : k < L.length
      · obtain ⟨bl, off, hAA, -, -⟩ := HH.out.at_ (by omega)
        subst hAA
        obtain ⟨z, hz⟩ : ∃ z, L[k] = z := ⟨_, rfl⟩
        have HCz := Lib.hid (fun (W : World) (kW : Keeps [] wr W) => (((HH.out.keep HK.out).keep kW).cells hlt))
        rw [hz] at HCz
        have HZ := Lib.hid hz
        clear hz
        go_upto_region 4 with fail
        refine m4in_any wr bl off L.length c k w.heap.size x z _ (fun W kW => ⟨(HCz.out W kW).1, (HB.out.keep kW (by simp)).cell 0⟩) hm hlt _ _ _ _ _ _ _ _ _ _ _ _ _ _ _ _ _ _ _ _ _ _ _ _ _ _ _ _ _ _ _ _ _ _ _ _ _ _ _ _ _ _ _ _ _ _ _ _ _ _ _ _ _ _ _ _ _ _ _ _ _ _ _ _ _ _ _ _ _ _ _ _ _ _ _ _ ?_
        intro v11 v12 v13 v14 v15 v16 v17 v18 v19 v20 v21 v22 v23 W4 k4
        obtain ⟨d, hd⟩ : ∃ d, decide (z.a < x.a) = d := ⟨_, rfl⟩
        rw [hd]
        have HD4 := Lib.hid hd
        clear hd
        cases d with
        | true =>
          have K4 := Lib.hid (HK.out.trans k4 (by simp))
          have B4 := Lib.hid (HB.out.keep k4 (by simp))
          clear k4
          go_wp2_with fail
          go_roundw
          case rel =>
            refine ⟨k + 1, by omega, by go_num, fun j hj hjk => ?_, B4.out, K4.out⟩
            by_cases e : j = k
            · subst e; rw [HZ.out]; exact of_decide_eq_true HD4.out
            · exact HST.out j hj (by omega)
          case measure => simp [intOf]; omega
        | false =>
          have hge : x.a ≤ z.a := by have := of_decide_eq_false HD4.out; omega
          have HK0 := HK
          have HB0 := HB
          have HCz0 := HCz
          have HK := Lib.hid (HK0.out.trans k4 (by simp))
          have HB := Lib.hid (HB0.out.keep k4 (by simp))
          have HCz := Lib.hid (fun (W : World) (kW : Keeps [] W4 W) => HCz0.out W (k4.trans kW (by simp)))
          clear k4 HK0 HB0 HCz0
          obtain ⟨wr, rfl⟩ : ∃ W, W = W4 := ⟨_, rfl⟩
          have HPOS : Hid (posA x.a L = k) := Lib.hid (posA_at hk HST.out (fun _ => by have := HZ.out; rw [this]; omega))
          cases k with
          | zero =>
            go_upto_region 6 with fail
            refine m6zn_any wr bl off L.length c w.heap.size x z _ (fun W kW => ⟨by have := (HCz.out W kW).1; simpa using this, (HB.out.keep kW (by simp)).cell 0, (HB.out.keep kW (by simp)).cell 1⟩) hm hlt x1 (by omega) x2 x3 _ _ _ _ _ _ _ _ _ _ _ _ _ _ _ _ _ _ _ _ _ _ _ _ _ _ _ _ _ _ _ _ _ _ _ _ _ _ _ _ _ _ _ _ _ _ _ _ _ _ _ _ _ _ _ _ _ _ _ _ _ _ _ _ _ _ _ _ _ _ _ _ _ _ _ _ ?_
            intro v28 v29 v30 v31 v32 v33 v34 v35 v36 v37 v38 v39 v40 v41 v42 v43 v44 v45 v46 v47 v48 v49 v50 v51 v52 v53 v54 v55 v56 v57 v58 v59 v60 v61 v62 v63 v64 v65 v66 W6 k6
            have K6 := Lib.hid (HK.out.trans k6 (by simp))
            have B6 := Lib.hid (HB.out.keep k6 (by simp))
            clear k6
            obtain ⟨d, hd⟩ : ∃ d, decide (z.a < x.a + x.n) = d := ⟨_, rfl⟩
            rw [hd]
            have HDD := Lib.hid hd
            clear hd
            cases d with
            | true =>
              have HCL : Hid (clash x L = true) := Lib.hid (by unfold clash; rw [HPOS.out]; unfold nextC; rw [List.getElem?_eq_getElem hlt, HZ.out]; show (_ || decide (z.a < x.a + x.n)) = true; rw [HDD.out, Bool.or_true])
              have eE : Hid (mapE x L = 5) := Lib.hid (by unfold mapE; rw [HVX.out, HCL.out]; rfl)
              go_wp2_with fail
              go_ret2
              exact .inr ⟨by rw [eE.out]; omega, by rw [eE.out]; rfl, K6.out⟩
            | false =>
              have HCL : Hid (clash x L = false) := Lib.hid (by unfold clash; rw [HPOS.out, show prevC x L 0 = false from rfl]; unfold nextC; rw [List.getElem?_eq_getElem hlt, HZ.out]; exact HDD.out)
              by_cases h16 : 16 ≤ L.length
              · have eE : Hid (mapE x L = 6) := Lib.hid (by unfold mapE; rw [HVX.out, HCL.out, if_pos h16]; rfl)
                have hp0 : (16 : Int) ≤ (L.length : Int) := by omega
                clear h16
                go_wp2_with fail
                go_ret2
                exact .inr ⟨by rw [eE.out]; omega, by rw [eE.out]; rfl, K6.out⟩
              · have eE : Hid (mapE x L = 0) := Lib.hid (by unfold mapE; rw [HVX.out, HCL.out, if_neg h16]; rfl)
                have hp0 : (L.length : Int) < 16 := by omega
                clear h16
                go_upto_region 10 with fail
                refine m10_any W6 (some ⟨bl, off, none⟩) L.length c w.heap.size 0 x L _ (fun W kW => B6.out.keep kW (by simp)) (fun W kW => clone_any W (some ⟨bl, off, none⟩) L c (HH.out.keep (K6.out.trans kW (by simp)))) (by omega) hm _ _ _ _ _ _ _ _ _ _ _ _ _ _ _ _ _ _ _ _ _ _ _ _ _ _ _ _ _ _ _ _ _ _ _ _ _ _ _ _ _ _ _ _ _ _ _ _ _ _ _ _ _ _ _ _ _ _ _ _ _ _ _ _ _ _ _ _ _ _ _ _ _ _ _ _ ?_
                intro v73 v74 v75 v76 v77 v78 vr W7 o7
                have HO7 := Lib.hid o7
                clear o7
                go_wp2_with fail
                go_ret2
                refine .inl ⟨eE.out, _, rfl, ?_⟩
                unfold insA
                rw [HPOS.out]
                exact ⟨HO7.out.1, K6.out.trans HO7.out.2.1 (by simp), fun g hg => by have h1 := HO7.out.2.2 g hg; have h2 := K6.out.size; omega⟩
          | succ j =>
            have hj : j < L.length := by omega
            obtain ⟨y, hy⟩ : ∃ y, L[j] = y := ⟨_, rfl⟩
            have hvj := HV.out _ (List.getElem_mem hj)
            rw [hy] at hvj
            have HY := Lib.hid hy
            have HCy := Lib.hid (fun (W : World) (kW : Keeps [] wr W) => (((HH.out.keep HK.out).keep kW).cells hj))
            rw [hy] at HCy
            have y1 := hvj.a0
            have y2 := hvj.n1
            have y3 := hvj.n2
            have y4 := hvj.an
            clear hvj hy
            by_cases hp : x.a < y.a + y.n
            · go_upto_region 6 with fail
              refine m6t_any wr bl off L.length c w.heap.size j x y _ (fun W kW => ⟨(HCy.out W kW).1, (HCy.out W kW).2.1, (HB.out.keep kW (by simp)).cell 0⟩) hm (by omega) y1 (by omega) y2 y3 hp _ _ _ _ _ _ _ _ _ _ _ _ _ _ _ _ _ _ _ _ _ _ _ _ _ _ _ _ _ _ _ _ _ _ _ _ _ _ _ _ _ _ _ _ _ _ _ _ _ _ _ _ _ _ _ _ _ _ _ _ _ _ _ _ _ _ _ _ _ _ _ _ _ _ _ _ ?_
              intro v28 v29 v30 v31 v32 v33 v34 v35 v36 v37 v38 v39 v40 v41 v42 v43 v44 v45 v46 v47 v48 v49 v50 v51 v52 v53 v54 v55 v56 v57 v58 v59 v60 v61 v62 v63 v64 v65 v66 W6 k6
              have K6 := Lib.hid (HK.out.trans k6 (by simp))
              have B6 := Lib.hid (HB.out.keep k6 (by simp))
              clear k6
              have HCL : Hid (clash x L = true) := Lib.hid (by unfold clash; rw [HPOS.out]; show (((L[j]?).any (fun y => decide (x.a < y.a + y.n))) || _) = true; rw [List.getElem?_eq_getElem hj, HY.out]; show (decide (x.a < y.a + y.n) || _) = true; rw [decide_eq_true hp]; rfl)
              clear hp
              have eE : Hid (mapE x L = 5) := Lib.hid (by unfold mapE; rw [HVX.out, HCL.out]; rfl)
              go_wp2_with fail
              go_ret2
              exact .inr ⟨by rw [eE.out]; omega, by rw [eE.out]; rfl, K6.out⟩
            · have hp' : y.a + y.n ≤ x.a := by omega
              have HPF := Lib.hid (show prevC x L (j + 1) = false by show (L[j]?).any (fun y => decide (x.a < y.a + y.n)) = false; rw [List.getElem?_eq_getElem hj, HY.out]; show decide (x.a < y.a + y.n) = false; exact decide_eq_false (by omega))
              clear hp
              go_upto_region 6 with fail
              refine m6fn_any wr bl off L.length c w.heap.size j x y z _ (fun W kW => ⟨(HCy.out W kW).1, (HCy.out W kW).2.1, (HB.out.keep kW (by simp)).cell 0, (HCz.out W kW).1, (HB.out.keep kW (by simp)).cell 1⟩) hm hlt y1 (by omega) y2 y3 hp' x1 (by omega) x2 x3 _ _ _ _ _ _ _ _ _ _ _ _ _ _ _ _ _ _ _ _ _ _ _ _ _ _ _ _ _ _ _ _ _ _ _ _ _ _ _ _ _ _ _ _ _ _ _ _ _ _ _ _ _ _ _ _ _ _ _ _ _ _ _ _ _ _ _ _ _ _ _ _ _ _ _ _ ?_
              intro v28 v29 v30 v31 v32 v33 v34 v35 v36 v37 v38 v39 v40 v41 v42 v43 v44 v45 v46 v47 v48 v49 v50 v51 v52 v53 v54 v55 v56 v57 v58 v59 v60 v61 v62 v63 v64 v65 v66 W6 k6
              have K6 := Lib.hid (HK.out.trans k6 (by simp))
              have B6 := Lib.hid (HB.out.keep k6 (by simp))
              clear k6
              obtain ⟨d, hd⟩ : ∃ d, decide (z.a < x.a + x.n) = d := ⟨_, rfl⟩
              rw [hd]
              have HDD := Lib.hid hd
              clear hd
              cases d with
              | true =>
                have HCL : Hid (clash x L = true) := Lib.hid (by unfold clash; rw [HPOS.out]; unfold nextC; rw [List.getElem?_eq_getElem hlt, HZ.out]; show (_ || decide (z.a < x.a + x.n)) = true; rw [HDD.out, Bool.or_true])
                have eE : Hid (mapE x L = 5) := Lib.hid (by unfold mapE; rw [HVX.out, HCL.out]; rfl)
                go_wp2_with fail
                go_ret2
                exact .inr ⟨by rw [eE.out]; omega, by rw [eE.out]; rfl, K6.out⟩
              | false =>
                have HCL : Hid (clash x L = false) := Lib.hid (by unfold clash; rw [HPOS.out, HPF.out]; unfold nextC; rw [List.getElem?_eq_getElem hlt, HZ.out]; exact HDD.out)
                by_cases h16 : 16 ≤ L.length
                · have eE : Hid (mapE x L = 6) := Lib.hid (by unfold mapE; rw [HVX.out, HCL.out, if_pos h16]; rfl)
                  have hp0 : (16 : Int) ≤ (L.length : Int) := by omega
                  clear h16
                  go_wp2_with fail
                  go_ret2
                  exact .inr ⟨by rw [eE.out]; omega, by rw [eE.out]; rfl, K6.out⟩
                · have eE : Hid (mapE x L = 0) := Lib.hid (by unfold mapE; rw [HVX.out, HCL.out, if_neg h16]; rfl)
                  have hp0 : (L.length : Int) < 16 := by omega
                  clear h16
                  go_upto_region 10 with fail
                  refine m10_any W6 (some ⟨bl, off, none⟩) L.length c w.heap.size (j + 1) x L _ (fun W kW => B6.out.keep kW (by simp)) (fun W kW => clone_any W (some ⟨bl, off, none⟩) L c (HH.out.keep (K6.out.trans kW (by simp)))) (by omega) hm _ _ _ _ _ _ _ _ _ _ _ _ _ _ _ _ _ _ _ _ _ _ _ _ _ _ _ _ _ _ _ _ _ _ _ _ _ _ _ _ _ _ _ _ _ _ _ _ _ _ _ _ _ _ _ _ _ _ _ _ _ _ _ _ _ _ _ _ _ _ _ _ _ _ _ _ ?_
                  intro v73 v74 v75 v76 v77 v78 vr W7 o7
                  have HO7 := Lib.hid o7
                  clear o7
                  go_wp2_with fail
                  go_ret2
                  refine .inl ⟨eE.out, _, rfl, ?_⟩
                  unfold insA
                  rw [HPOS.out]
                  exact ⟨HO7.out.1, K6.out.trans HO7.out.2.1 (by simp), fun g hg => by have h1 := HO7.out.2.2 g hg; have h2 := K6.out.size; omega⟩
      · have hge : L.length ≤ k := by omega
        go_upto_region 4 with fail
        refine m4out_any wr L.length c k w.heap.size A _ hm hge _ _ _ _ _ _ _ _ _ _ _ _ _ _ _ _ _ _ _ _ _ _ _ _ _ _ _ _ _ _ _ _ _ _ _ _ _ _ _ _ _ _ _ _ _ _ _ _ _ _ _ _ _ _ _ _ _ _ _ _ _ _ _ _ _ _ _ _ _ _ _ _ _ _ _ _ ?_
        intro v11 v12 v13 v14 v15 v16 v17 v18 v19 v20 v21 v22 v23 W4 k4
        have HK0 := HK
        have HB0 := HB
        have HK := Lib.hid (HK0.out.trans k4 (by simp))
        have HB := Lib.hid (HB0.out.keep k4 (by simp))
        clear k4 HK0 HB0
        obtain ⟨wr, rfl⟩ : ∃ W, W = W4 := ⟨_, rfl⟩
        have HPOS : Hid (posA x.a L = k) := Lib.hid (posA_at hk HST.out (fun h => absurd h (by omega)))
        cases k with
        | zero =>
          go_upto_region 6 with fail
          refine m6ze_any wr L.length c w.heap.size A _ hm (by omega) _ _ _ _ _ _ _ _ _ _ _ _ _ _ _ _ _ _ _ _ _ _ _ _ _ _ _ _ _ _ _ _ _ _ _ _ _ _ _ _ _ _ _ _ _ _ _ _ _ _ _ _ _ _ _ _ _ _ _ _ _ _ _ _ _ _ _ _ _ _ _ _ _ _ _ _ ?_
          intro v28 v29 v30 v31 v32 v33 v34 v35 v36 v37 v38 v39 v40 v41 v42 v43 v44 v45 v46 v47 v48 v49 v50 v51 v52 v53 v54 v55 v56 v57 v58 v59 v60 v61 v62 v63 v64 v65 v66 W6 k6
          have K6 := Lib.hid (HK.out.trans k6 (by simp))
          have B6 := Lib.hid (HB.out.keep k6 (by simp))
          clear k6
          have HCL : Hid (clash x L = false) := Lib.hid (by unfold clash; rw [HPOS.out]; show nextC x L 0 = false; unfold nextC; rw [List.getElem?_eq_none (by omega)]; rfl)
          by_cases h16 : 16 ≤ L.length
          · have eE : Hid (mapE x L = 6) := Lib.hid (by unfold mapE; rw [HVX.out, HCL.out, if_pos h16]; rfl)
            have hp0 : (16 : Int) ≤ (L.length : Int) := by omega
            clear h16
            go_wp2_with fail
            go_ret2
            exact .inr ⟨by rw [eE.out]; omega, by rw [eE.out]; rfl, K6.out⟩
          · have eE : Hid (mapE x L = 0) := Lib.hid (by unfold mapE; rw [HVX.out, HCL.out, if_neg h16]; rfl)
            have hp0 : (L.length : Int) < 16 := by omega
            clear h16
            go_upto_region 10 with fail
            refine m10_any W6 A L.length c w.heap.size 0 x L _ (fun W kW => B6.out.keep kW (by simp)) (fun W kW => clone_any W A L c (HH.out.keep (K6.out.trans kW (by simp)))) (by omega) hm _ _ _ _ _ _ _ _ _ _ _ _ _ _ _ _ _ _ _ _ _ _ _ _ _ _ _ _ _ _ _ _ _ _ _ _ _ _ _ _ _ _ _ _ _ _ _ _ _ _ _ _ _ _ _ _ _ _ _ _ _ _ _ _ _ _ _ _ _ _ _ _ _ _ _ _ ?_
            intro v73 v74 v75 v76 v77 v78 vr W7 o7
            have HO7 := Lib.hid o7
            clear o7
            go_wp2_with fail
            go_ret2
            refine .inl ⟨eE.out, _, rfl, ?_⟩
            unfold insA
            rw [HPOS.out]
            exact ⟨HO7.out.1, K6.out.trans HO7.out.2.1 (by simp), fun g hg => by have h1 := HO7.out.2.2 g hg; have h2 := K6.out.size; omega⟩
        | succ j =>
          have hj : j < L.length := by omega
          obtain ⟨bl, off, hAA, -, -⟩ := HH.out.at_ (by omega)
          subst hAA
          obtain ⟨y, hy⟩ : ∃ y, L[j] = y := ⟨_, rfl⟩
          have hvj := HV.out _ (List.getElem_mem hj)
          rw [hy] at hvj
          have HY := Lib.hid hy
          have HCy := Lib.hid (fun (W : World) (kW : Keeps [] wr W) => (((HH.out.keep HK.out).keep kW).cells hj))
          rw [hy] at HCy
          have y1 := hvj.a0
          have y2 := hvj.n1
          have y3 := hvj.n2
          have y4 := hvj.an
          clear hvj hy
          by_cases hp : x.a < y.a + y.n
          · go_upto_region 6 with fail
            refine m6t_any wr bl off L.length c w.heap.size j x y _ (fun W kW => ⟨(HCy.out W kW).1, (HCy.out W kW).2.1, (HB.out.keep kW (by simp)).cell 0⟩) hm (by omega) y1 (by omega) y2 y3 hp _ _ _ _ _ _ _ _ _ _ _ _ _ _ _ _ _ _ _ _ _ _ _ _ _ _ _ _ _ _ _ _ _ _ _ _ _ _ _ _ _ _ _ _ _ _ _ _ _ _ _ _ _ _ _ _ _ _ _ _ _ _ _ _ _ _ _ _ _ _ _ _ _ _ _ _ ?_
            intro v28 v29 v30 v31 v32 v33 v34 v35 v36 v37 v38 v39 v40 v41 v42 v43 v44 v45 v46 v47 v48 v49 v50 v51 v52 v53 v54 v55 v56 v57 v58 v59 v60 v61 v62 v63 v64 v65 v66 W6 k6
            have K6 := Lib.hid (HK.out.trans k6 (by simp))
            have B6 := Lib.hid (HB.out.keep k6 (by simp))
            clear k6
            have HCL : Hid (clash x L = true) := Lib.hid (by unfold clash; rw [HPOS.out]; show (((L[j]?).any (fun y => decide (x.a < y.a + y.n))) || _) = true; rw [List.getElem?_eq_getElem hj, HY.out]; show (decide (x.a < y.a + y.n) || _) = true; rw [decide_eq_true hp]; rfl)
            clear hp
            have eE : Hid (mapE x L = 5) := Lib.hid (by unfold mapE; rw [HVX.out, HCL.out]; rfl)
            go_wp2_with fail
            go_ret2
            exact .inr ⟨by rw [eE.out]; omega, by rw [eE.out]; rfl, K6.out⟩
          · have hp' : y.a + y.n ≤ x.a := by omega
            have HPF := Lib.hid (show prevC x L (j + 1) = false by show (L[j]?).any (fun y => decide (x.a < y.a + y.n)) = false; rw [List.getElem?_eq_getElem hj, HY.out]; show decide (x.a < y.a + y.n) = false; exact decide_eq_false (by omega))
            clear hp
            go_upto_region 6 with fail
            refine m6fe_any wr bl off L.length c w.heap.size j x y _ (fun W kW => ⟨(HCy.out W kW).1, (HCy.out W kW).2.1, (HB.out.keep kW (by simp)).cell 0⟩) hm (by omega) (by omega) y1 (by omega) y2 y3 hp' _ _ _ _ _ _ _ _ _ _ _ _ _ _ _ _ _ _ _ _ _ _ _ _ _ _ _ _ _ _ _ _ _ _ _ _ _ _ _ _ _ _ _ _ _ _ _ _ _ _ _ _ _ _ _ _ _ _ _ _ _ _ _ _ _ _ _ _ _ _ _ _ _ _ _ _ ?_
            intro v28 v29 v30 v31 v32 v33 v34 v35 v36 v37 v38 v39 v40 v41 v42 v43 v44 v45 v46 v47 v48 v49 v50 v51 v52 v53 v54 v55 v56 v57 v58 v59 v60 v61 v62 v63 v64 v65 v66 W6 k6
            have K6 := Lib.hid (HK.out.trans k6 (by simp))
            have B6 := Lib.hid (HB.out.keep k6 (by simp))
            clear k6
            have HCL : Hid (clash x L = false) := Lib.hid (by unfold clash; rw [HPOS.out, HPF.out]; unfold nextC; rw [List.getElem?_eq_none (by omega)]; rfl)
            by_cases h16 : 16 ≤ L.length
            · have eE : Hid (mapE x L = 6) := Lib.hid (by unfold mapE; rw [HVX.out, HCL.out, if_pos h16]; rfl)
              have hp0 : (16 : Int) ≤ (L.length : Int) := by omega
              clear h16
              go_wp2_with fail
              go_ret2
              exact .inr ⟨by rw [eE.out]; omega, by rw [eE.out]; rfl, K6.out⟩
            · have eE : Hid (mapE x L = 0) := Lib.hid (by unfold mapE; rw [HVX.out, HCL.out, if_neg h16]; rfl)
              have hp0 : (L.length : Int) < 16 := by omega
              clear h16
              go_upto_region 10 with fail
              refine m10_any W6 (some ⟨bl, off, none⟩) L.length c w.heap.size (j + 1) x L _ (fun W kW => B6.out.keep kW (by simp)) (fun W kW => clone_any W (some ⟨bl, off, none⟩) L c (HH.out.keep (K6.out.trans kW (by simp)))) (by omega) hm _ _ _ _ _ _ _ _ _ _ _ _ _ _ _ _ _ _ _ _ _ _ _ _ _ _ _ _ _ _ _ _ _ _ _ _ _ _ _ _ _ _ _ _ _ _ _ _ _ _ _ _ _ _ _ _ _ _ _ _ _ _ _ _ _ _ _ _ _ _ _ _ _ _ _ _ ?_
              intro v73 v74 v75 v76 v77 v78 vr W7 o7
              have HO7 := Lib.hid o7
              clear o7
              go_wp2_with fail
              go_ret2
              refine .inl ⟨eE.out, _, rfl, ?_⟩
              unfold insA
              rw [HPOS.out]
              exact ⟨HO7.out.1, K6.out.trans HO7.out.2.1 (by simp), fun g hg => by have h1 := HO7.out.2.2 g hg; have h2 := K6.out.size; omega⟩
end Go.Proofs.Ytiffjaociblboaa
