/- The walk of the reference's Lose. -/
import Derived.Test.YteognipfnbocpaaGreatQ17
import Derived.Test.YteognipfnbocpaaGreatClose
namespace Go.Proofs.YteognipfnbocpaaGreat
open Go.RowKit
open T12 (E TbRep RfRep ent ents cells5 mapM mapN wlkM wlkB wlkN unmM clrM clrB lookX)
open T13 (Tl En TlRep es Nd)

theorem lostJ_hit {r : Rm} {fr : Int} {i : Nat} {m : Pg} {E0 : List (Nat × E)} (el : EL m E0) {j : Nat} (hj : j < E0.length) (hn : (E0[j]).2.fr = fr) : r.lostJ fr i m (E0.take (j + 1)) = { (r.lostJ fr i m (E0.take j)) with M := (r.lostJ fr i m (E0.take j)).M.set i (unmM (loseJ fr m (E0.take j)) (E0[j].1 : Nat)) } := by
  rw [lostJ_set]
  have hm := (el.mem _ (List.getElem_mem hj)).2
  unfold Rm.lostJ
  rw [List.take_succ_eq_append_getElem hj, loseJ_snoc_eq hm (el.fresh j hj) hn]
theorem lostJ_miss {r : Rm} {fr : Int} {i : Nat} {m : Pg} {E0 : List (Nat × E)} (el : EL m E0) {j : Nat} (hj : j < E0.length) (hn : (E0[j]).2.fr ≠ fr) : r.lostJ fr i m (E0.take (j + 1)) = r.lostJ fr i m (E0.take j) := by
  have hm := (el.mem _ (List.getElem_mem hj)).2
  unfold Rm.lostJ
  rw [List.take_succ_eq_append_getElem hj, loseJ_snoc_ne hm (el.fresh j hj) hn]
set_option maxRecDepth 100000 in
set_option maxHeartbeats 6400000 in
theorem rlose_any (w : World) (F : List Nat) (p : Nat) (r : Rm) (h : RmRep w F p r) (ha : Asc r.N) (hl : r.N.length = r.M.length) (hN : r.N.length ≤ 100000) (fr : Int) (hk : ∀ k ∈ r.C, k.n ≤ 1000 ∧ k.L.length ≤ 1000) (hC : r.C.length ≤ 64) (hn0 : 0 ≤ r.n) (hn1 : r.n ≤ 1000000000) :
    Calls Tryz.prog 34 #[.pointer (some ⟨p, 0, none⟩), .int .i64 fr] w (LoseP w F p r fr) := by
  have HN := Lib.hid (RmN.start h)
  have HI := Lib.hid info42
  obtain ⟨d, hd⟩ : ∃ d : En → Bool, d = fun e => e.f == fr := ⟨_, rfl⟩
  have HD := Lib.hid hd
  have HKK := Lib.hid hk
  have hML : r.M.length ≤ 100000 := by rw [← hl]; exact hN
  have HS : Hid (sumM fr r.M = sumH r.tab fr r.N) := Lib.hid (by rw [← sumM_H, tabs_map ha hl])
  have HLS := Lib.hid (LoseS.done hl fr)
  clear h ha hk hd hl hN
  go_enter Tryz.func34, Tryz.ntmps34
  go_wp2_with fail
  go_loopw [5, 6] (fun n i wr => ∃ k : Nat, k ≤ r.M.length ∧ i = .int .i64 k ∧ n = .int .i64 (sumM fr (r.M.take k) : Nat) ∧ RmN w F wr p (r.lost fr k)) (fun _ i _ => r.M.length - (intOf i).toNat)
  case atStart => exact ⟨0, by omega, rfl, by simp [sumM], by rw [lost_zero]; exact HN.out⟩
  case round =>
    clear HN
    obtain ⟨k, hk, rfl, rfl, I⟩ := hrel
    have hsm := sumM_le fr (r.M.take k)
    have htl : (r.M.take k).length ≤ r.M.length := by rw [List.length_take]; omega
    obtain ⟨S, hS⟩ : ∃ S, sumM fr (r.M.take k) = S := ⟨_, rfl⟩
    rw [hS] at hsm ⊢
    have HSS := Lib.hid hS
    clear hS
    by_cases hlt : k < r.M.length
    · have hm := List.getElem?_eq_getElem hlt
      obtain ⟨m, hmm⟩ : ∃ m, r.M[k] = m := ⟨_, rfl⟩
      rw [hmm] at hm
      have HM := Lib.hid hm
      have hst : Hid (sumM fr (r.M.take (k + 1)) = S + hits fr (ents m 256)) := Lib.hid (by rw [List.take_succ_eq_append_getElem hlt, sumM_snoc, HSS.out, hmm])
      obtain ⟨wo, rfl⟩ : ∃ wo : World, wo = wr := ⟨_, rfl⟩
      obtain ⟨g, c2, G, q, x1, y1, t1, -⟩ := I.tabAt (lost_at (fr := fr) hm)
      rw [lost_len] at x1
      have al := fun (a : Addr) (v : Value) (h : wo.cell? a = some v) => (World.cell?_alloc_lt wo (.cells #[] 42) a (cell_lt h)).trans h
      have x1a := al _ _ x1
      have y1a := al _ _ y1
      have hown : (wo.alloc (.cells #[] 42)).ownsRow 0 42 5 (.slice (some ⟨wo.heap.size, 0, none⟩) 0 0) 0 [] := own_of_blk (Blk.new wo 42 #[]) (by omega) (by omega) rfl rfl
      have HO := Lib.hid hown
      have HII := Lib.hid I
      have el := EL_ents m 256 rfl
      obtain ⟨A, cap, t1⟩ := t1.keep ((Keeps.refl [] wo).alloc (.cells #[] 42)) (by simp)
      have HZ := Lib.hid t1.z
      have b1 := t1.b
      have o1 := t1.o
      generalize hE0 : ents m 256 = E0 at *
      have c0 := b1.cell 0
      have hle : E0.length ≤ 256 := el.len
      have HR := Lib.hid (reads_own o1)
      have H1 := Lib.hid (T12.cells5_one E0)
      have HEL := Lib.hid el
      have hkI : (k : Int) < (r.M.length : Int) := by omega
      have hk0 : (0 : Int) ≤ (k : Int) := by omega
      clear I t1 b1 o1 hown el hE0 hm hmm al
      go_wp2_with (at_builtin; refine wpList_app _ rfl (.tmp 19) (.tmp 29) 46 rfl 42 (.agg #[.int .i64 0, .int .i64 0, .bool false, .bool false, .bool false]) 5 24 Tryz.underlying46 HI.out rfl (by omega) (.slice (some ⟨wo.heap.size, 0, none⟩) 0 0) 0 [] rfl HO.out _ A E0.length cap (cells5 E0) rfl HR.out H1.out (by unfold maxLen; omega) (by omega) ?_)
      intro v' w' ho' hk' hf'
      have kA : Keeps [] wo w' := ((Keeps.refl [] wo).alloc _).trans hk' (fun g hg => .inr (by simp at hg; omega))
      obtain ⟨F1, hF1, I1, hback⟩ := HII.out.rebase kA
      have hvF : ∀ g ∈ fp v', g ∉ F1 := fun g hg h => by
        have := hF1 g h
        rcases hf' g hg with h2 | h2
        · have h3 : g = wo.heap.size := by simpa using h2
          omega
        · have h3 : wo.heap.size + 1 ≤ g := by simpa using h2
          omega
      have I2 : RmN w' F1 w' p (r.lostJ fr k m (E0.take 0)) := by rw [List.take_zero, lostJ_nil HM.out]; exact I1
      have HO' := Lib.hid ho'
      have HV := Lib.hid hvF
      have HB := Lib.hid hback
      have HI2 := Lib.hid I2
      obtain ⟨Av, cv, rfl, -, -, hAv⟩ := own_shape ho'
      have kz : Keeps [] wo w' := kA
      clear ho' hk' hf' kA hF1 I1 I2 hback hvF HII HO HR c0 x1 y1 x1a y1a
      go_wp2_with fail
      go_loopw [5, 8] (fun n i wr => ∃ j : Nat, j ≤ E0.length ∧ i = .int .i64 j ∧ n = .int .i64 ((S : Int) + (hits fr (E0.take j) : Nat)) ∧ RmN w' F1 wr p (r.lostJ fr k m (E0.take j))) (fun _ i _ => E0.length - (intOf i).toNat)
      case atStart => exact ⟨0, by omega, rfl, by simp [hits], HI2.out⟩
      case round =>
        clear HI2
        obtain ⟨j, hj, rfl, rfl, J⟩ := hrel
        have hh := hits_le fr (E0.take j)
        have htl2 : (E0.take j).length ≤ E0.length := by rw [List.length_take]; omega
        by_cases hlt2 : j < E0.length
        · obtain ⟨g, rfl⟩ := hAv (by omega)
          obtain ⟨F2, -, kI, -⟩ := id J
          have ow := own_keep HO'.out kI HV.out
          have y0 := own_cell ow (j := j * 5) (u := .int .i64 (E0[j].1 : Nat)) (by rw [show j * 5 = j * 5 + 0 by omega, cells5_at hlt2 (by omega)]; rfl)
          have y1 := own_cell ow (j := j * 5 + 1) (u := .int .i64 E0[j].2.fr) (by rw [cells5_at hlt2 (by omega)]; rfl)
          have hsn := hits_snoc fr (E0.take j) E0[j]
          rw [← List.take_succ_eq_append_getElem hlt2] at hsn
          by_cases he : E0[j].2.fr = fr
          · have te : (E0[j].2.fr == fr) = true := by simpa using he
            rw [if_pos he] at hsn
            have HSN := Lib.hid hsn
            have hit := lostJ_hit (r := r) (i := k) HEL.out hlt2 he
            have HH := Lib.hid hit
            obtain ⟨g2, c2, G2, q2, z1, z2, t2, hcl⟩ := (J.same ((Keeps.refl [] wr).drew)).tabAt (lostJ_at HM.out (E0.take j))
            rw [lostJ_len] at z1
            have z1' : wr.cell? ⟨p, 1, none⟩ = some (.slice (some ⟨g2, 0, none⟩) r.M.length c2) := z1
            have z2' : wr.cell? ⟨g2, k, none⟩ = some (.pointer (some ⟨q2, 0, none⟩)) := z2
            have CU := Lib.hid (T12.runmap_any wr.drew G2 q2 _ (E0[j].1 : Nat) t2)
            have HCL := Lib.hid hcl
            have hj0 : (0 : Int) ≤ (j : Int) := by omega
            have hjI : (j : Int) < (E0.length : Int) := by omega
            clear J kI ow hsn he hit t2 hcl
            obtain ⟨pgj, hpg⟩ : ∃ z : Int, z = ((E0[j].1 : Nat) : Int) := ⟨_, rfl⟩
            rw [← hpg] at y0 CU
            have HPG := Lib.hid hpg
            clear hpg
            go_wp2_with fail
            go_still_tail 12, (by kernel_rfl)
            change wpList _ _ _ _ _ wr.drew
            generalize wr.drew = w6 at *
            go_wp2_with fail
            refine CU.out.mono ?_
            rintro e w7 ⟨G3, rfl, n7⟩
            have J2 := HCL.out _ _ ⟨G3, n7⟩
            rw [HPG.out, ← HH.out] at J2
            have HJ2 := Lib.hid J2
            have hsb : S + hits fr (E0.take j) + 1 ≤ 100000000 := by omega
            clear n7 CU HCL J2 HH z1 z1' z2 z2'
            go_wp2_with fail
            go_roundw
            case rel => exact ⟨j + 1, by omega, by go_num, by rw [HSN.out]; exact congrArg (Value.int .i64) (by omega), HJ2.out⟩
            case measure => simp [intOf]; omega
          · have te : (E0[j].2.fr == fr) = false := by simpa using he
            rw [if_neg he] at hsn
            have HSN := Lib.hid hsn
            have HH := Lib.hid (lostJ_miss (r := r) (i := k) HEL.out hlt2 he)
            have HJ := Lib.hid J
            have hnn : ¬ E0[j].2.fr = fr := he
            clear J kI ow hsn he
            go_wp2_with fail
            go_roundw
            case rel => exact ⟨j + 1, by omega, by go_num, by rw [HSN.out]; rfl, by rw [HH.out]; exact HJ.out⟩
            case measure => simp [intOf]; omega
        · obtain rfl : j = E0.length := by omega
          rw [List.take_length] at J hh ⊢
          have NF := HB.out wr _ J
          have e3 : r.lostJ fr k m E0 = r.lost fr (k + 1) := by
            unfold Rm.lostJ
            rw [HEL.out.all fr HZ.out, lost_step HM.out]
          rw [e3] at NF
          have HNF := Lib.hid NF
          clear J NF e3 hlt2
          go_wp2_with fail
          go_roundw
          case rel => exact ⟨k + 1, by omega, by go_num, by rw [hst.out]; go_num, HNF.out⟩
          case measure => simp [intOf]; omega
    · obtain rfl : k = r.M.length := by omega
      rw [List.take_length] at HSS
      obtain ⟨F2, ⟨L', B1, B2, B3, d1, d2, d3, qs', cs', hat⟩, -, -⟩ := id I
      have x1 := hat.bp.cell 1
      rw [lost_len] at x1
      obtain ⟨r2, hr2⟩ : ∃ r2, r.lost fr r.M.length = r2 := ⟨_, rfl⟩
      have hC2 : r2.C = r.C := by rw [← hr2]; rfl
      have hn2 : r2.n = r.n := by rw [← hr2]; rfl
      rw [hr2] at I hat HLS x1
      have x2 := hat.bp.cell 2
      have HN := Lib.hid I
      have HC2 := Lib.hid hC2
      have HKK2 : Hid (∀ k ∈ r2.C, k.n ≤ 1000 ∧ k.L.length ≤ 1000) := Lib.hid (by rw [hC2]; exact HKK.out)
      have hCl : r2.C.length ≤ 64 := by rw [hC2]; exact hC
      rw [← hn2] at hn0 hn1
      clear I hat hC2 hn2 hr2 HKK hC hlt hk htl
      go_wp2_with fail
      go_loopw [9] (fun i wr => ∃ j : Nat, j ≤ r2.C.length ∧ i = .int .i64 j ∧ RmN w F wr p (r2.part d j)) (fun i _ => r2.C.length - (intOf i).toNat)
      case atStart => exact ⟨0, by omega, rfl, by rw [rpart_zero]; exact HN.out⟩
      case round =>
        clear x1 x2 HN
        obtain ⟨j, hj, rfl, I⟩ := hrel
        have hpl := rpart_len r2 d j
        by_cases hlt : j < r2.C.length
        · have hks := List.getElem?_eq_getElem hlt
          obtain ⟨g, c3', H, rc, e2, y2, t2, hpH, hpw, hcl⟩ := (I.same ((Keeps.refl [] wr).drew)).cache (rpart_at (d := d) hks)
          rw [hpl] at e2
          have e2' : wr.cell? ⟨p, 2, none⟩ = some (.slice (some ⟨g, 0, none⟩) r2.C.length c3') := e2
          have y2' : wr.cell? ⟨g, j, none⟩ = some (.pointer (some ⟨rc, 0, none⟩)) := y2
          obtain ⟨n3, z3, _⟩ := (I.same ((Keeps.refl [] wr).drew)).cell3
          have n3' : wr.cell? ⟨p, 3, none⟩ = some (.int .i64 (r2.part d j).n) := n3
          have hkk := HKK2.out _ (List.getElem_mem hlt)
          have CD := Lib.hid (T13.rdropFrame_any wr.drew H rc r2.C[j] fr hkk.1 t2)
          have hg := gone_bd (d := d) (l := r2.C.take j) (fun k hk => (HKK2.out k (List.mem_of_mem_take hk)).2)
          have hgl : (r2.C.take j).length ≤ 64 := by rw [List.length_take]; omega
          have hdl := drop_len r2.C[j] d
          have hn : 0 ≤ (r2.part d j).n ∧ (r2.part d j).n ≤ 1000100000 := by
            show 0 ≤ r2.n + gone d (r2.C.take j) ∧ r2.n + gone d (r2.C.take j) ≤ 1000100000
            omega
          have hst := rpart_step (d := d) hks
          have hl1 := hkk.2
          have HST := Lib.hid hst
          rw [← HD.out] at CD
          obtain ⟨dl, hdl2⟩ : ∃ z : Int, z = (r2.C[j].L.length : Int) - (r2.C[j].drop d).L.length := ⟨_, rfl⟩
          have hd0 : 0 ≤ dl ∧ dl ≤ 1000 := by omega
          rw [← hdl2] at CD HST
          obtain ⟨nn, hnn⟩ : ∃ z : Int, z = (r2.part d j).n := ⟨_, rfl⟩
          rw [← hnn] at hn n3 n3' HST
          have HNN := Lib.hid hnn
          have hn0' := hn.1
          have hn1' := hn.2
          have hd0' := hd0.1
          have hd1' := hd0.2
          have HCL := Lib.hid hcl
          have hjj : (j : Int) < (r2.C.length : Int) := by omega
          have hj0 : (0 : Int) ≤ (j : Int) := by omega
          clear hst hks hg hgl hdl hdl2 hnn hn hd0 hkk hcl t2 I hpl hl1
          go_wp2_with fail
          go_region_law (first
            | (refine T13.step_call rfl 66 _ _ rfl #[.pointer (some ⟨rc, 0, none⟩), .int .i64 fr] (by first | (simp [Act.eval]; done) | (simp [Act.eval, Act.put]; done)) (enters_of Tryz.func66 (by kernel_rfl) rfl) CD.out ?_; rintro e w1 ⟨rfl, n1⟩; refine ⟨_, rfl, ?_⟩; have R1 := HCL.out _ _ n1; obtain ⟨m3, f3, l3⟩ := R1.cell3; have m4 : w1.cell? ⟨p, 3, none⟩ = some (.int .i64 nn) := (by rw [HNN.out]; exact m3); have RR := Lib.hid R1; clear R1 m3 n1))
          all_goals
            have R2 : Hid (RmN w F (w1.setCell ⟨p, 3, none⟩ (.int .i64 (nn + dl))) p (r2.part d (j + 1))) := Lib.hid (by
              rw [← HST.out]
              exact RR.out.count _)
            clear RR HCL CD
            go_wp2
            go_roundw
            case rel => exact ⟨j + 1, by omega, by go_num, R2.out⟩
            case measure => simp [intOf]; omega
        · obtain rfl : j = r2.C.length := by omega
          rw [rpart_all] at I
          obtain ⟨F3, ⟨L', B1, B2, B3, d1, d2, d3, qs', cs', hat⟩, -, -⟩ := id I
          have x2 := hat.bp.cell 2
          have hsl : (r2.shoot d).C.length = r2.C.length := by simp [Rm.shoot]
          rw [hsl] at x2
          have HI2 := Lib.hid I
          clear I hat hpl
          go_wp2_with fail
          go_ret
          refine ⟨r2.shoot d, by rw [← HS.out, HSS.out]; rfl, HI2.out, ?_⟩
          rw [HD.out]
          exact HLS.out
end Go.Proofs.YteognipfnbocpaaGreat
