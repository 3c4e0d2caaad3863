/- The reference's Unmap. -/
import Derived.Test.YteognipfnbocpaaGreatQ7
import Derived.Deep.RegionLaw
namespace Go.Proofs.YteognipfnbocpaaGreat
open Go.RowKit
open T12 (E TbRep RfRep ent ents cells5 mapM mapN wlkM wlkB wlkN unmM clrM clrB lookX)
open T13 (Tl En TlRep es Nd)

/-- The reference's Mmu when the first j caches are done. -/
def Rm.part (r : Rm) (d : En → Bool) (j : Nat) : Rm := { r with C := (r.C.take j).map (·.drop d) ++ r.C.drop j, n := r.n + gone d (r.C.take j) }
def Rm.shoot (r : Rm) (d : En → Bool) : Rm := { r with C := r.C.map (·.drop d), n := r.n + gone d r.C }
theorem rpart_zero (r : Rm) (d : En → Bool) : r.part d 0 = r := by simp [Rm.part, gone]
theorem rpart_all (r : Rm) (d : En → Bool) : r.part d r.C.length = r.shoot d := by simp [Rm.part, Rm.shoot]
theorem rpart_len (r : Rm) (d : En → Bool) (j : Nat) : (r.part d j).C.length = r.C.length := by simp [Rm.part]; omega
theorem rpart_at {r : Rm} {d : En → Bool} {j : Nat} {k : Tl} (h : r.C[j]? = some k) : (r.part d j).C[j]? = some k := by
  have hj := (List.getElem?_eq_some_iff.1 h).1
  show ((r.C.take j).map (·.drop d) ++ r.C.drop j)[j]? = some k
  rw [List.getElem?_append_right (by simp; omega), List.getElem?_drop]
  simp only [List.length_map, List.length_take]
  rw [show j + (j - min j r.C.length) = j by omega]
  exact h
theorem rpart_step {r : Rm} {d : En → Bool} {j : Nat} {k : Tl} (h : r.C[j]? = some k) : ({ (r.part d j) with C := (r.part d j).C.set j (k.drop d), n := (r.part d j).n + ((k.L.length : Int) - (k.drop d).L.length) } : Rm) = r.part d (j + 1) := by
  obtain ⟨hj, rfl⟩ := List.getElem?_eq_some_iff.1 h
  have e1 : r.C.take (j + 1) = r.C.take j ++ [r.C[j]] := List.take_succ_eq_append_getElem hj
  have e2 : r.C.drop j = r.C[j] :: r.C.drop (j + 1) := (List.drop_eq_getElem_cons hj)
  unfold Rm.part
  rw [e1, gone_snoc, e2]
  have e3 : ((r.C.take j).map (·.drop d)).length = j := by simp; omega
  have e4 : ((r.C.take j).map (·.drop d) ++ r.C[j] :: r.C.drop (j + 1)).set j (r.C[j].drop d) = (r.C.take j ++ [r.C[j]]).map (·.drop d) ++ r.C.drop (j + 1) := by
    rw [List.set_append_right _ _ (by omega), e3, Nat.sub_self, List.set_cons_zero, List.map_append]
    simp only [List.map_cons, List.map_nil, List.append_assoc, List.singleton_append]
  show Rm.mk r.N r.M (((r.C.take j).map (·.drop d) ++ r.C[j] :: r.C.drop (j + 1)).set j (r.C[j].drop d)) (r.n + gone d (r.C.take j) + ((r.C[j].L.length : Int) - (r.C[j].drop d).L.length)) = Rm.mk r.N r.M _ _
  rw [e4, Int.add_assoc]
set_option maxRecDepth 100000 in
set_option maxHeartbeats 1600000 in
theorem runmap_any (w : World) (F : List Nat) (p : Nat) (r : Rm) (h : RmRep w F p r) (x pg : Int) (hk : ∀ k ∈ r.C, k.n ≤ 1000 ∧ Nd k.L ∧ k.L.length ≤ 1000) (hC : r.C.length ≤ 64) (hn0 : 0 ≤ r.n) (hn1 : r.n ≤ 1000000000) :
    Calls Tryz.prog 33 #[.pointer (some ⟨p, 0, none⟩), .int .i64 x, .int .i64 pg] w fun e w' => e = .returned (.bool (ent (r.tab x) pg).isSome) ∧ RmN w F w' p ((r.shoot (fun e => e.is x pg)).setTab x (unmM (r.tab x) pg)) := by
  have HN := Lib.hid (RmN.start h)
  obtain ⟨L, A1, A2, A3, c1, c2, c3, qs, cs, h⟩ := h
  have k2 := h.bp.cell 2
  clear h
  obtain ⟨d, hd⟩ : ∃ d : En → Bool, d = fun e => e.is x pg := ⟨_, rfl⟩
  rw [← hd]
  have HD := Lib.hid hd
  have HKK := Lib.hid hk
  clear hd hk
  go_enter Tryz.func33, Tryz.ntmps33
  go_wp2_with fail
  go_loopw [7] (fun i wr => ∃ j : Nat, j ≤ r.C.length ∧ i = .int .i64 j ∧ RmN w F wr p (r.part d j)) (fun i _ => r.C.length - (intOf i).toNat)
  case atStart => exact ⟨0, by omega, rfl, by rw [rpart_zero]; exact HN.out⟩
  case round =>
    clear k2
    obtain ⟨j, hj, rfl, I⟩ := hrel
    have hpl := rpart_len r d j
    by_cases hlt : j < r.C.length
    · have hks := List.getElem?_eq_getElem hlt
      obtain ⟨g, c3', H, rc, e2, y2, t2, hpH, hpw, hcl⟩ := (I.same ((Keeps.refl [] wr).drew)).cache (rpart_at (d := d) hks)
      rw [hpl] at e2
      have e2' : wr.cell? ⟨p, 2, none⟩ = some (.slice (some ⟨g, 0, none⟩) r.C.length c3') := e2
      have y2' : wr.cell? ⟨g, j, none⟩ = some (.pointer (some ⟨rc, 0, none⟩)) := y2
      obtain ⟨n3, z3, _⟩ := (I.same ((Keeps.refl [] wr).drew)).cell3
      have n3' : wr.cell? ⟨p, 3, none⟩ = some (.int .i64 (r.part d j).n) := n3
      have hkk := HKK.out _ (List.getElem_mem hlt)
      have CD := Lib.hid (T13.rdrop_any wr.drew H rc r.C[j] x pg hkk.1 hkk.2.1 t2)
      have hg := gone_bd (d := d) (l := r.C.take j) (fun k hk => (HKK.out k (List.mem_of_mem_take hk)).2.2)
      have hgl : (r.C.take j).length ≤ 64 := by rw [List.length_take]; omega
      have hdl := drop_len r.C[j] d
      have hn : 0 ≤ (r.part d j).n ∧ (r.part d j).n ≤ 1000100000 := by
        show 0 ≤ r.n + gone d (r.C.take j) ∧ r.n + gone d (r.C.take j) ≤ 1000100000
        omega
      have hst := rpart_step (d := d) hks
      have hl1 := hkk.2.2
      have HST := Lib.hid hst
      rw [← HD.out] at CD
      obtain ⟨dl, hdl2⟩ : ∃ z : Int, z = (r.C[j].L.length : Int) - (r.C[j].drop d).L.length := ⟨_, rfl⟩
      have hd0 : 0 ≤ dl ∧ dl ≤ 1000 := by omega
      rw [← hdl2] at CD HST
      obtain ⟨nn, hnn⟩ : ∃ z : Int, z = (r.part d j).n := ⟨_, rfl⟩
      rw [← hnn] at hn n3 n3' HST
      have HNN := Lib.hid hnn
      have hn0' := hn.1
      have hn1' := hn.2
      have hd0' := hd0.1
      have hd1' := hd0.2
      have HCL := Lib.hid hcl
      have hjj : (j : Int) < (r.C.length : Int) := by omega
      have hj0 : (0 : Int) ≤ (j : Int) := by omega
      clear hst hks hg hgl hdl hdl2 hnn hn hd0 hkk hcl t2 I hpl hl1
      go_wp2_with fail
      go_region_law (first
        | (refine T13.step_call rfl 64 _ _ rfl #[.pointer (some ⟨rc, 0, none⟩), .int .i64 x, .int .i64 pg] (by first | (simp [Act.eval]; done) | (simp [Act.eval, Act.put]; done)) (enters_of Tryz.func64 (by kernel_rfl) rfl) CD.out ?_; rintro e w1 ⟨rfl, n1⟩; refine ⟨_, rfl, ?_⟩; have R1 := HCL.out _ _ n1; obtain ⟨m3, f3, l3⟩ := R1.cell3; have m4 : w1.cell? ⟨p, 3, none⟩ = some (.int .i64 nn) := (by rw [HNN.out]; exact m3); have RR := Lib.hid R1; clear R1 m3 n1))
      all_goals
        have R2 : Hid (RmN w F (w1.setCell ⟨p, 3, none⟩ (.int .i64 (nn + dl))) p (r.part d (j + 1))) := Lib.hid (by
          rw [← HST.out]
          exact RR.out.count _)
        clear RR HCL CD
        go_wp2
        go_roundw
        case rel => exact ⟨j + 1, by omega, by go_num, R2.out⟩
        case measure => simp [intOf]; omega
    · obtain rfl : j = r.C.length := by omega
      have e2 : wr.cell? ⟨p, 2, none⟩ = some (.slice A3 r.C.length c3) ∨ True := .inr trivial
      clear e2
      rw [rpart_all] at I
      have hco := I
      obtain ⟨F1, ⟨L', B1, B2, B3, d1, d2, d3, qs', cs', hat⟩, -, -⟩ := hco
      have x2 := hat.bp.cell 2
      have hsl : (r.shoot d).C.length = r.C.length := by simp [Rm.shoot]
      rw [hsl] at x2
      have HT := Lib.hid (I.table x)
      clear I hat hpl
      go_wp2_with fail
      refine HT.out.mono ?_
      rintro e w2 ⟨q, rfl, f2, -⟩
      have HU := Lib.hid (f2.unmap pg)
      clear f2 HT
      go_wp2_with fail
      refine HU.out.mono ?_
      rintro e w3 ⟨rfl, f3⟩
      have F3 := Lib.hid f3.toN
      clear f3 HU
      go_wp2
      go_ret
      exact ⟨rfl, F3.out⟩
end Go.Proofs.YteognipfnbocpaaGreat
