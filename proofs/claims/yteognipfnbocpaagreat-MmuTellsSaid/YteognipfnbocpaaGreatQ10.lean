/- The reference's End. -/
import Derived.Test.YteognipfnbocpaaGreatQ9
namespace Go.Proofs.YteognipfnbocpaaGreat
open Go.RowKit
open T12 (E TbRep RfRep ent ents cells5 mapM mapN wlkM wlkB wlkN unmM clrM clrB lookX)
open T13 (Tl En TlRep es Nd)

/-- The pages of l are unmapped. -/
def unmL (l : List (Nat × E)) (m : Pg) : Pg := l.foldl (fun m a => unmM m (a.1 : Nat)) m
theorem unmL_snoc (l : List (Nat × E)) (a : Nat × E) (m : Pg) : unmL (l ++ [a]) m = unmM (unmL l m) (a.1 : Nat) := by simp [unmL]
theorem rset_twice (r : Rm) (x : Int) (a b : Pg) : (r.setTab x a).setTab x b = r.setTab x b := by
  unfold Rm.setTab
  cases h : r.ix x with
  | none => simp [h]
  | some i =>
    have : ({ r with M := r.M.set i a } : Rm).ix x = some i := h
    simp only [this]
    simp
/-- A new beginning: what was laid since is told apart from the whole's blocks. -/
theorem RFocN.rebase {w0 w w' : World} {F0 : List Nat} {p : Nat} {r : Rm} {x : Int} {q : Nat} {m : Pg} (h : RFocN w0 F0 w p r x q m) (hk : Keeps [] w w') :
    ∃ F1, (∀ g ∈ F1, g < w.heap.size) ∧ RFocN w' F1 w' p r x q m ∧ ∀ w'' r'', RmN w' F1 w'' p r'' → RmN w0 F0 w'' p r'' := by
  obtain ⟨F, G, h, h1, h2, h3⟩ := h
  have hs := h1.size
  have hs2 := hk.size
  refine ⟨F ++ G, fun g hg => ?_, ⟨F, G, h.same hk, Keeps.refl _ _, fun g hg => .inl (List.mem_append_left _ hg), fun g hg => .inl (List.mem_append_right _ hg)⟩, fun w'' r'' h4 => ?_⟩
  · rcases List.mem_append.1 hg with h5 | h5
    · exact h.rep.lt g h5
    · exact h.rf.lt g h5
  · obtain ⟨F2, a, b, c⟩ := h4
    have hFG : ∀ g ∈ F ++ G, g ∈ F0 ∨ w0.heap.size ≤ g := fun g hg => (List.mem_append.1 hg).elim (h2 g) (h3 g)
    exact ⟨F2, a, (h1.trans hk (by simp)).trans b hFG, fun g hg => (c g hg).elim (hFG g) (fun h => .inr (by omega))⟩
set_option maxRecDepth 100000 in
set_option maxHeartbeats 1600000 in
theorem rend_any (w : World) (F : List Nat) (p : Nat) (r : Rm) (h : RmRep w F p r) (x : Int) (hk : ∀ k ∈ r.C, k.n ≤ 1000 ∧ Nd k.L ∧ k.L.length ≤ 1000) (hC : r.C.length ≤ 64) (hn0 : 0 ≤ r.n) (hn1 : r.n ≤ 1000000000) :
    Calls Tryz.prog 35 #[.pointer (some ⟨p, 0, none⟩), .int .i64 x] w fun e w' => e = .returned (.tuple #[]) ∧ RmN w F w' p ((r.setTab x (unmL (ents (r.tab x) 256) (r.tab x))).shoot (fun e => e.s == x)) := by
  have HT := Lib.hid ((RmN.start h).table x)
  have HI := Lib.hid info42
  obtain ⟨d, hd⟩ : ∃ d : En → Bool, d = fun e => e.s == x := ⟨_, rfl⟩
  rw [← hd]
  have HD := Lib.hid hd
  have HKK := Lib.hid hk
  have hle := ents_bd (r.tab x)
  obtain ⟨m, hm⟩ : ∃ m, r.tab x = m := ⟨_, rfl⟩
  rw [hm] at HT hle ⊢
  obtain ⟨E0, hE0⟩ : ∃ E0, ents m 256 = E0 := ⟨_, rfl⟩
  have HEE : Unit → ents m 256 = E0 := fun _ => hE0
  rw [hE0] at hle ⊢
  clear h hd hk hm hE0
  go_enter Tryz.func35, Tryz.ntmps35
  go_wp2_with fail
  refine HT.out.mono ?_
  rintro e w1 ⟨q, rfl, f1, -⟩
  have f2 := f1.same ((Keeps.refl [] w1).alloc (.cells #[] 42))
  have hown : (w1.alloc (.cells #[] 42)).ownsRow 0 42 5 (.slice (some ⟨w1.heap.size, 0, none⟩) 0 0) 0 [] := own_of_blk (Blk.new w1 42 #[]) (by omega) (by omega) rfl rfl
  have HO := Lib.hid hown
  have HF1 := Lib.hid f1
  obtain ⟨G, g2, -⟩ := f2.get
  obtain ⟨A, cap, g2⟩ := g2
  have b1 := g2.b
  have o1 := g2.o
  rw [HEE ()] at b1 o1
  have c0 := b1.cell 0
  have HR := Lib.hid (reads_own o1)
  have H1 := Lib.hid (T12.cells5_one E0)
  clear f1 f2 hown g2 b1 o1 HT
  go_wp2_with (at_builtin; refine wpList_app _ rfl (.tmp 11) (.tmp 15) 46 rfl 42 (.agg #[.int .i64 0, .int .i64 0, .bool false, .bool false, .bool false]) 5 24 Tryz.underlying46 HI.out rfl (by omega) (.slice (some ⟨w1.heap.size, 0, none⟩) 0 0) 0 [] rfl HO.out _ A E0.length cap (cells5 E0) rfl HR.out H1.out (by unfold maxLen; omega) (by omega) ?_)
  intro v' w' ho' hk' hf'
  have kA : Keeps [] w1 w' := ((Keeps.refl [] w1).alloc _).trans hk' (fun g hg => .inr (by simp at hg; omega))
  obtain ⟨F1, hF1, f3, hback⟩ := HF1.out.rebase kA
  have hvF : ∀ g ∈ fp v', g ∉ F1 := fun g hg h => by
    have := hF1 g h
    rcases hf' g hg with h2 | h2
    · have h3 : g = w1.heap.size := by simpa using h2
      omega
    · have h3 : w1.heap.size + 1 ≤ g := by simpa using h2
      omega
  have h0 : r.setTab x m = r.setTab x (unmL (E0.take 0) m) := rfl
  have hrm : RFocN w' F1 w' p (r.setTab x (unmL (E0.take 0) m)) x q (unmL (E0.take 0) m) := by
    obtain ⟨G3, g3, g4⟩ := f3.get
    exact g4 w' m ⟨G3, g3, Keeps.refl _ _, fun g hg => .inl hg⟩
  have HO' := Lib.hid ho'
  have HV := Lib.hid hvF
  have HB := Lib.hid hback
  have HR0 := Lib.hid hrm
  obtain ⟨Av, cv, rfl, -, -, hAv⟩ := own_shape ho'
  clear ho' hk' hf' kA hF1 f3 hback hvF h0 hrm HF1 HO HR c0
  go_wp2_with fail
  go_loopw [6] (fun i wr => ∃ j : Nat, j ≤ E0.length ∧ i = .int .i64 j ∧ RFocN w' F1 wr p (r.setTab x (unmL (E0.take j) m)) x q (unmL (E0.take j) m)) (fun i _ => E0.length - (intOf i).toNat)
  case atStart => exact ⟨0, by omega, rfl, HR0.out⟩
  case round =>
    clear HR0
    obtain ⟨j, hj, rfl, I⟩ := hrel
    by_cases hlt : j < E0.length
    · obtain ⟨g, rfl⟩ := hAv (by omega)
      obtain ⟨F2, -, kI, -⟩ := I.toN
      have y0 := own_cell (own_keep HO'.out kI HV.out) (j := j * 5) (u := .int .i64 (E0[j].1 : Nat)) (by rw [show j * 5 = j * 5 + 0 by omega, cells5_at hlt (by omega)]; rfl)
      have HU := Lib.hid (I.unmap (E0[j].1 : Nat))
      have hs : unmL (E0.take (j + 1)) m = unmM (unmL (E0.take j) m) (E0[j].1 : Nat) := by rw [List.take_succ_eq_append_getElem hlt, unmL_snoc]
      have HS := Lib.hid hs
      clear I kI hs
      go_wp2_with fail
      refine HU.out.mono ?_
      rintro e w5 ⟨rfl, f5⟩
      rw [rset_twice, ← HS.out] at f5
      have F5 := Lib.hid f5
      clear f5 HU HS
      go_wp2_with fail
      go_roundw
      case rel => exact ⟨j + 1, by omega, by go_num, F5.out⟩
      case measure => simp [intOf]; omega
    · obtain rfl : j = E0.length := by omega
      rw [List.take_length] at I
      have N0 := HB.out _ _ I.toN
      have hC2 : (r.setTab x (unmL E0 m)).C = r.C := rset_C _ _ _
      have hn2 : (r.setTab x (unmL E0 m)).n = r.n := rset_n _ _ _
      obtain ⟨r2, hr2⟩ : ∃ r2, r2 = r.setTab x (unmL E0 m) := ⟨_, rfl⟩
      rw [← hr2] at N0 hC2 hn2
      have HRR := Lib.hid hr2
      obtain ⟨F2, ⟨L', B1, B2, B3, d1, d2, d3, qs', cs', hat⟩, -, -⟩ := id N0
      have x2 := hat.bp.cell 2
      have HN := Lib.hid N0
      have HC2 := Lib.hid hC2
      have HKK2 : Hid (∀ k ∈ r2.C, k.n ≤ 1000 ∧ Nd k.L ∧ k.L.length ≤ 1000) := Lib.hid (by rw [hC2]; exact HKK.out)
      have hCl : r2.C.length ≤ 64 := by rw [hC2]; exact hC
      rw [← hn2] at hn0 hn1
      clear I N0 hat hC2 hn2 hr2 HB HKK HEE HO' HV hAv hC
      go_wp2_with fail
      go_loopw [7] (fun i wr => ∃ j : Nat, j ≤ r2.C.length ∧ i = .int .i64 j ∧ RmN w F wr p (r2.part d j)) (fun i _ => r2.C.length - (intOf i).toNat)
      case atStart => exact ⟨0, by omega, rfl, by rw [rpart_zero]; exact HN.out⟩
      case round =>
        clear x2 HN
        obtain ⟨j, hj, rfl, I⟩ := hrel
        have hpl := rpart_len r2 d j
        by_cases hlt : j < r2.C.length
        · have hks := List.getElem?_eq_getElem hlt
          obtain ⟨g, c3', H, rc, e2, y2, t2, hpH, hpw, hcl⟩ := (I.same ((Keeps.refl [] wr).drew)).cache (rpart_at (d := d) hks)
          rw [hpl] at e2
          have e2' : wr.cell? ⟨p, 2, none⟩ = some (.slice (some ⟨g, 0, none⟩) r2.C.length c3') := e2
          have y2' : wr.cell? ⟨g, j, none⟩ = some (.pointer (some ⟨rc, 0, none⟩)) := y2
          obtain ⟨n3, z3, _⟩ := (I.same ((Keeps.refl [] wr).drew)).cell3
          have n3' : wr.cell? ⟨p, 3, none⟩ = some (.int .i64 (r2.part d j).n) := n3
          have hkk := HKK2.out _ (List.getElem_mem hlt)
          have CD := Lib.hid (T13.rflush_any wr.drew H rc r2.C[j] x hkk.1 t2)
          have hg := gone_bd (d := d) (l := r2.C.take j) (fun k hk => (HKK2.out k (List.mem_of_mem_take hk)).2.2)
          have hgl : (r2.C.take j).length ≤ 64 := by rw [List.length_take]; omega
          have hdl := drop_len r2.C[j] d
          have hn : 0 ≤ (r2.part d j).n ∧ (r2.part d j).n ≤ 1000100000 := by
            show 0 ≤ r2.n + gone d (r2.C.take j) ∧ r2.n + gone d (r2.C.take j) ≤ 1000100000
            omega
          have hst := rpart_step (d := d) hks
          have hl1 := hkk.2.2
          have HST := Lib.hid hst
          rw [← HD.out] at CD
          obtain ⟨dl, hdl2⟩ : ∃ z : Int, z = (r2.C[j].L.length : Int) - (r2.C[j].drop d).L.length := ⟨_, rfl⟩
          have hd0 : 0 ≤ dl ∧ dl ≤ 1000 := by omega
          rw [← hdl2] at CD HST
          obtain ⟨nn, hnn⟩ : ∃ z : Int, z = (r2.part d j).n := ⟨_, rfl⟩
          rw [← hnn] at hn n3 n3' HST
          have HNN := Lib.hid hnn
          have hn0' := hn.1
          have hn1' := hn.2
          have hd0' := hd0.1
          have hd1' := hd0.2
          have HCL := Lib.hid hcl
          have hjj : (j : Int) < (r2.C.length : Int) := by omega
          have hj0 : (0 : Int) ≤ (j : Int) := by omega
          clear hst hks hg hgl hdl hdl2 hnn hn hd0 hkk hcl t2 I hpl hl1
          go_wp2_with fail
          go_region_law (first
            | (refine T13.step_call rfl 67 _ _ rfl #[.pointer (some ⟨rc, 0, none⟩), .int .i64 x] (by first | (simp [Act.eval]; done) | (simp [Act.eval, Act.put]; done)) (enters_of Tryz.func67 (by kernel_rfl) rfl) CD.out ?_; rintro e w1 ⟨rfl, n1⟩; refine ⟨_, rfl, ?_⟩; have R1 := HCL.out _ _ n1; obtain ⟨m3, f3, l3⟩ := R1.cell3; have m4 : w1.cell? ⟨p, 3, none⟩ = some (.int .i64 nn) := (by rw [HNN.out]; exact m3); have RR := Lib.hid R1; clear R1 m3 n1))
          all_goals
            have R2 : Hid (RmN w F (w1.setCell ⟨p, 3, none⟩ (.int .i64 (nn + dl))) p (r2.part d (j + 1))) := Lib.hid (by
              rw [← HST.out]
              exact RR.out.count _)
            clear RR HCL CD
            go_wp2
            go_roundw
            case rel => exact ⟨j + 1, by omega, by go_num, R2.out⟩
            case measure => simp [intOf]; omega
        · obtain rfl : j = r2.C.length := by omega
          rw [rpart_all] at I
          obtain ⟨F3, ⟨L', B1, B2, B3, d1, d2, d3, qs', cs', hat⟩, -, -⟩ := id I
          have x2 := hat.bp.cell 2
          have hsl : (r2.shoot d).C.length = r2.C.length := by simp [Rm.shoot]
          rw [hsl] at x2
          have HI2 := Lib.hid I
          clear I hat hpl
          go_wp2_with fail
          go_end0
          rw [← HRR.out]
          exact ⟨rfl, HI2.out⟩
end Go.Proofs.YteognipfnbocpaaGreat
