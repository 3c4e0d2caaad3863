/- The reference's Map. -/
import Derived.Test.YteognipfnbocpaaGreatQ15
namespace Go.Proofs.YteognipfnbocpaaGreat
open Go.RowKit
open T12 (E TbRep RfRep ent ents cells5 mapM mapN wlkM wlkB wlkN unmM clrM clrB lookX)
open T13 (Tl En TlRep es Nd)

theorem rset_tab_ix {r : Rm} (hl : r.N.length = r.M.length) {x : Int} (hx : (r.ix x).isSome) (m : Pg) (y : Int) : (r.setTab x m).tab y = if y = x then m else r.tab y := by
  obtain ⟨i, hx⟩ := Option.isSome_iff_exists.1 hx
  obtain ⟨hi, hxi⟩ := rix_lt hx
  have hiy : (r.setTab x m).ix y = r.ix y := rset_ix r x y m
  unfold Rm.tab
  rw [hiy, rset_some hx]
  cases hy : r.ix y with
  | none =>
    have e : y ≠ x := fun e => by rw [e, hx] at hy; cases hy
    rw [if_neg e]
  | some j =>
    obtain ⟨hj, hyj⟩ := rix_lt hy
    show ((r.M.set i m)[j]?).getD pg0 = if y = x then m else (r.M[j]?).getD pg0
    rw [List.getElem?_set]
    by_cases e : i = j
    · subst e
      have : y = x := by rw [← hyj, hxi]
      rw [if_pos rfl, if_pos (by omega), if_pos this]
      rfl
    · have : y ≠ x := fun h => by rw [h, hx] at hy; injection hy with hy; exact e hy
      rw [if_neg e, if_neg this]
theorem rset_N (r : Rm) (x : Int) (m : Pg) : (r.setTab x m).N = r.N := by unfold Rm.setTab; split <;> rfl
theorem rset_l {r : Rm} (h : r.N.length = r.M.length) (x : Int) (m : Pg) : (r.setTab x m).N.length = (r.setTab x m).M.length := by unfold Rm.setTab; split <;> simp [h]
theorem MadeS.map {r r1 : Rm} {x : Int} (h : MadeS r x r1) (pg fr : Int) (wr : Bool) (hr : 0 ≤ pg ∧ pg < 256 ∧ 0 ≤ fr) : MapS r x pg fr wr ((r1.setTab x (mapM (r.tab x) pg fr wr)).shoot (fun e => e.is x pg)) := by
  refine ⟨fun y => ?_, ?_, ?_, ?_, ?_, ?_⟩
  · show (r1.setTab x (mapM (r.tab x) pg fr wr)).tab y = _
    rw [rset_tab_ix h.l h.ix, h.t y]
  · rw [if_pos hr]
    show (r1.setTab x _).C.map _ = _
    rw [rset_C, h.c]
  · rw [if_pos hr]
    show (r1.setTab x _).n + gone _ (r1.setTab x _).C = _
    rw [rset_C, rset_n, h.c, h.n]
  · show Asc (r1.setTab x _).N
    rw [rset_N]; exact h.a
  · exact rset_l h.l x _
  · show (r1.setTab x _).N.length ≤ _
    rw [rset_N]; exact h.k
theorem MadeS.nomap {r r1 : Rm} {x : Int} (h : MadeS r x r1) (pg fr : Int) (wr : Bool) (hr : ¬ (0 ≤ pg ∧ pg < 256 ∧ 0 ≤ fr)) : MapS r x pg fr wr (r1.setTab x (mapM (r.tab x) pg fr wr)) := by
  refine ⟨fun y => by rw [rset_tab_ix h.l h.ix, h.t y], by rw [if_neg hr, rset_C, h.c], by rw [if_neg hr, rset_n, h.n], by rw [rset_N]; exact h.a, rset_l h.l x _, by rw [rset_N]; exact h.k⟩
def MapP (w : World) (F : List Nat) (p : Nat) (r : Rm) (x pg fr : Int) (wr : Bool) (e : Ending) (w' : World) : Prop := ∃ r', e = .returned (.int .i64 (mapN pg fr)) ∧ RmN w F w' p r' ∧ MapS r x pg fr wr r'
set_option maxRecDepth 100000 in
set_option maxHeartbeats 3200000 in
theorem rmap_any (w : World) (F : List Nat) (p : Nat) (r : Rm) (h : RmRep w F p r) (ha : Asc r.N) (hN : r.N.length ≤ 100000) (x pg fr : Int) (wb : Bool) (hk : ∀ k ∈ r.C, k.n ≤ 1000 ∧ Nd k.L ∧ k.L.length ≤ 1000) (hC : r.C.length ≤ 64) (hn0 : 0 ≤ r.n) (hn1 : r.n ≤ 1000000000) :
    Calls Tryz.prog 32 #[.pointer (some ⟨p, 0, none⟩), .int .i64 x, .int .i64 pg, .int .i64 fr, .bool wb] w (MapP w F p r x pg fr wb) := by
  have HM := Lib.hid (rmade_any w F p r h ha hN x)
  obtain ⟨d, hd⟩ : ∃ d : En → Bool, d = fun e => e.is x pg := ⟨_, rfl⟩
  have HD := Lib.hid hd
  have HKK := Lib.hid hk
  clear hd hk h ha
  go_enter Tryz.func32, Tryz.ntmps32
  go_wp2_with fail
  refine HM.out.mono ?_
  rintro e w1 ⟨q, r1, rfl, f1, hms⟩
  have hM1 := f1.map pg fr wb
  obtain ⟨r2, hr2⟩ : ∃ r2, r1.setTab x (mapM (r.tab x) pg fr wb) = r2 := ⟨_, rfl⟩
  rw [hr2] at hM1
  have HC2 : Hid (r2.C = r.C) := Lib.hid (by rw [← hr2, rset_C, hms.c])
  have hn2 : r2.n = r.n := by rw [← hr2, rset_n, hms.n]
  have HR2 := Lib.hid hr2
  have HMS := Lib.hid hms
  rw [← hn2] at hn0 hn1
  clear hr2 hms f1 hn2 HM
  by_cases hr : 0 ≤ pg ∧ pg < 256 ∧ 0 ≤ fr
  rotate_left
  · have e1 : mapN pg fr = 3 := by unfold mapN; rw [if_neg hr]
    rw [e1] at hM1
    have HE := Lib.hid (And.intro e1 hr)
    have M1 := Lib.hid hM1
    clear e1 hr hM1
    go_wp2_with fail
    refine M1.out.mono ?_
    rintro e w2 ⟨rfl, f2⟩
    obtain ⟨F2, ⟨L', B1, B2, B3, d1, d2, d3, qs', cs', hat⟩, -, -⟩ := f2.toN
    have x2 := hat.bp.cell 2
    have N2 := Lib.hid f2.toN
    have hCl : r2.C.length ≤ 64 := by rw [HC2.out]; exact hC
    clear f2 hat
    go_wp2_with fail
    go_loopw [12] (fun i wr => i = .int .i64 0 ∧ wr = w2) (fun _ _ => 0)
    case atStart => exact ⟨rfl, rfl⟩
    case round =>
      obtain ⟨rfl, rfl⟩ := hrel
      by_cases h0 : 0 < r2.C.length
      · go_wp2_with fail
        go_ret
        refine ⟨r2, by rw [HE.out.1]; rfl, N2.out, ?_⟩
        rw [← HR2.out]
        exact HMS.out.nomap pg fr wb HE.out.2
      · go_wp2_with fail
        go_ret
        refine ⟨r2, by rw [HE.out.1]; rfl, N2.out, ?_⟩
        rw [← HR2.out]
        exact HMS.out.nomap pg fr wb HE.out.2
  · have e1 : mapN pg fr = 0 := by unfold mapN; rw [if_pos hr]
    rw [e1] at hM1
    have HE := Lib.hid (And.intro e1 hr)
    have M1 := Lib.hid hM1
    clear e1 hr hM1
    go_wp2_with fail
    refine M1.out.mono ?_
    rintro e w2 ⟨rfl, f2⟩
    have HN := Lib.hid f2.toN
    obtain ⟨F2, ⟨L', B1, B2, B3, d1, d2, d3, qs', cs', hat⟩, -, -⟩ := f2.toN
    have x2 := hat.bp.cell 2
    have HKK2 : Hid (∀ k ∈ r2.C, k.n ≤ 1000 ∧ Nd k.L ∧ k.L.length ≤ 1000) := Lib.hid (by rw [HC2.out]; exact HKK.out)
    have hCl : r2.C.length ≤ 64 := by rw [HC2.out]; exact hC
    clear f2 hat M1 HKK hC
    go_wp2_with fail
    go_loopw [12] (fun i wr => ∃ j : Nat, j ≤ r2.C.length ∧ i = .int .i64 j ∧ RmN w F wr p (r2.part d j)) (fun i _ => r2.C.length - (intOf i).toNat)
    case atStart => exact ⟨0, by omega, rfl, by rw [rpart_zero]; exact HN.out⟩
    case round =>
      clear x2 HN
      obtain ⟨j, hj, rfl, I⟩ := hrel
      have hpl := rpart_len r2 d j
      by_cases hlt : j < r2.C.length
      · have hks := List.getElem?_eq_getElem hlt
        obtain ⟨g, c3', H, rc, e2, y2, t2, hpH, hpw, hcl⟩ := (I.same ((Keeps.refl [] wr).drew)).cache (rpart_at (d := d) hks)
        rw [hpl] at e2
        have e2' : wr.cell? ⟨p, 2, none⟩ = some (.slice (some ⟨g, 0, none⟩) r2.C.length c3') := e2
        have y2' : wr.cell? ⟨g, j, none⟩ = some (.pointer (some ⟨rc, 0, none⟩)) := y2
        obtain ⟨n3, z3, _⟩ := (I.same ((Keeps.refl [] wr).drew)).cell3
        have n3' : wr.cell? ⟨p, 3, none⟩ = some (.int .i64 (r2.part d j).n) := n3
        have hkk := HKK2.out _ (List.getElem_mem hlt)
        have CD := Lib.hid (T13.rdrop_any wr.drew H rc r2.C[j] x pg hkk.1 hkk.2.1 t2)
        have hg := gone_bd (d := d) (l := r2.C.take j) (fun k hk => (HKK2.out k (List.mem_of_mem_take hk)).2.2)
        have hgl : (r2.C.take j).length ≤ 64 := by rw [List.length_take]; omega
        have hdl := drop_len r2.C[j] d
        have hn : 0 ≤ (r2.part d j).n ∧ (r2.part d j).n ≤ 1000100000 := by
          show 0 ≤ r2.n + gone d (r2.C.take j) ∧ r2.n + gone d (r2.C.take j) ≤ 1000100000
          omega
        have hst := rpart_step (d := d) hks
        have hl1 := hkk.2.2
        have HST := Lib.hid hst
        rw [← HD.out] at CD
        obtain ⟨dl, hdl2⟩ : ∃ z : Int, z = (r2.C[j].L.length : Int) - (r2.C[j].drop d).L.length := ⟨_, rfl⟩
        have hd0 : 0 ≤ dl ∧ dl ≤ 1000 := by omega
        rw [← hdl2] at CD HST
        obtain ⟨nn, hnn⟩ : ∃ z : Int, z = (r2.part d j).n := ⟨_, rfl⟩
        rw [← hnn] at hn n3 n3' HST
        have HNN := Lib.hid hnn
        have hn0' := hn.1
        have hn1' := hn.2
        have hd0' := hd0.1
        have hd1' := hd0.2
        have HCL := Lib.hid hcl
        have hjj : (j : Int) < (r2.C.length : Int) := by omega
        have hj0 : (0 : Int) ≤ (j : Int) := by omega
        clear hst hks hg hgl hdl hdl2 hnn hn hd0 hkk hcl t2 I hpl hl1
        go_wp2_with fail
        go_region_law (first
          | (refine T13.step_call rfl 64 _ _ rfl #[.pointer (some ⟨rc, 0, none⟩), .int .i64 x, .int .i64 pg] (by first | (simp [Act.eval]; done) | (simp [Act.eval, Act.put]; done)) (enters_of Tryz.func64 (by kernel_rfl) rfl) CD.out ?_; rintro e w1 ⟨rfl, n1⟩; refine ⟨_, rfl, ?_⟩; have R1 := HCL.out _ _ n1; obtain ⟨m3, f3, l3⟩ := R1.cell3; have m4 : w1.cell? ⟨p, 3, none⟩ = some (.int .i64 nn) := (by rw [HNN.out]; exact m3); have RR := Lib.hid R1; clear R1 m3 n1))
        all_goals
          have R2 : Hid (RmN w F (w1.setCell ⟨p, 3, none⟩ (.int .i64 (nn + dl))) p (r2.part d (j + 1))) := Lib.hid (by
            rw [← HST.out]
            exact RR.out.count _)
          clear RR HCL CD
          go_wp2
          go_roundw
          case rel => exact ⟨j + 1, by omega, by go_num, R2.out⟩
          case measure => simp [intOf]; omega
      · obtain rfl : j = r2.C.length := by omega
        rw [rpart_all] at I
        obtain ⟨F3, ⟨L', B1, B2, B3, d1, d2, d3, qs', cs', hat⟩, -, -⟩ := id I
        have x2 := hat.bp.cell 2
        have hsl : (r2.shoot d).C.length = r2.C.length := by simp [Rm.shoot]
        rw [hsl] at x2
        have HI2 := Lib.hid I
        clear I hat hpl
        go_wp2_with fail
        go_ret
        refine ⟨r2.shoot d, by rw [HE.out.1]; rfl, HI2.out, ?_⟩
        rw [← HR2.out, HD.out]
        exact HMS.out.map pg fr wb HE.out.2
end Go.Proofs.YteognipfnbocpaaGreat
