/- The reference: Put (printed by t11gen.py). -/
import Derived.Test.YtbllmpcpfmlemaaGreatTB
namespace Go.Proofs.YtbllmpcpfmlemaaGreat
open Go.RowKit
theorem Rf.openM {w : World} {d : Nat} {F G : List Nat} {C : St} (h : Rf w d F G C) (hr : Row0 C) {i : Int} (hh : has C i = true) :
    ∃ (x : One) (k g cap : Nat) (ms : Int → Mr) (A1 A2 A3 : Option Addr) (p1 p2 p3 : Nat), find C i = some x ∧ x ∈ C ∧ x.id = i ∧ plc C i = (k : Nat) ∧ k < C.length ∧ (∃ hk : k < C.reverse.length, C.reverse[k] = x) ∧ (k = 0 ↔ i = 0) ∧ RfM w d (some ⟨g, 0, none⟩) cap ms F G C ∧ Pl w d G k x g C.length cap A1 A2 A3 p1 p2 p3 := by
  obtain ⟨A, cap, ms, h⟩ := h
  obtain ⟨k, hk, h1, h2, h3⟩ := hr.find hh
  obtain ⟨x, hx⟩ : ∃ x, C.reverse[k] = x := ⟨_, rfl⟩
  obtain ⟨g, rfl, c0, c1, c2, c3, c4⟩ := h.cellsX hk hx
  have hxC : x ∈ C := by rw [← hx]; exact List.mem_reverse.1 (List.getElem_mem hk)
  have hz := hr.zero hk
  rw [h1] at hz
  have e1 : x.id = i := by rw [← hx]; exact h1
  have e3 : find C i = some x := by rw [← hx]; exact h3
  obtain ⟨m, hm⟩ : ∃ m, ms x.id = m := ⟨_, rfl⟩
  have ho := h.one _ hxC
  rw [hm] at c2 c3 c4 ho
  obtain ⟨m1, m2, m3⟩ := m
  have f := h.b.cell 0
  obtain ⟨A1, p1, hm1, -, -, -⟩ := own_shape ho.wr
  obtain ⟨xs, hxs, -, -⟩ := ho.rd
  obtain ⟨A2, p2, hm2, -, -, -⟩ := own_shape hxs
  obtain ⟨A3, p3, hm3, -, -, -⟩ := own_shape ho.lg
  dsimp only at hm1 hm2 hm3
  subst hm1 hm2 hm3
  exact ⟨x, k, g, cap, ms, A1, A2, A3, p1, p2, p3, e3, hxC, e1, h2, by rw [List.length_reverse] at hk; exact hk, ⟨hk, hx⟩, hz, h, f, c0, c1, c2, c3, c4, ho, cell_lt f, cell_lt c0⟩
/-- What was written has turned. -/
theorem RfM.wrTurn {w W6 : World} {d g : Nat} {cap : Nat} {ms : Int → Mr} {F G : List Nat} {C : St} (h : RfM w d (some ⟨g, 0, none⟩) cap ms F G C) (hr : Row0 C) {k : Nat} (hk : k < C.reverse.length) {x : One} (hx : C.reverse[k] = x) (f : List (Str × Str) → List (Str × Str))
    (hkp : Keeps [g] w W6) (v1 : Value) {m1 m2 m3 : Value} (hone : OneV w (m1, m2, m3) x G) (ho : W6.ownsRow 0 88 2 v1 (f x.wr).length (rw pc (f x.wr))) (hf : ∀ g ∈ fp v1, w.heap.size ≤ g)
    (hrow : W6.ownsRow 0 68 5 (.slice (some ⟨g, 0, none⟩) C.length cap) C.length (splice (rw (oc ms) C.reverse) (k * 5) [.int .i64 x.id, .int .i64 x.par, v1, m2, m3])) : RTurn w W6 d F G (upd C x.id (setWr f)) := by
  have hgF : g ∈ F := h.rF g (by simp [fp, Value.ownBlock])
  have hgG : g ∉ G := fun h' => h.off g h' hgF
  have hfar : ∀ {s : List Nat}, (∀ g' ∈ s, g' ∈ G) → ∀ g' ∈ s, g' ∉ [g] := fun hs g' hg h' => by rw [List.mem_singleton.1 h'] at hg; exact hgG (hs _ hg)
  refine h.turnX (G' := fp v1 ++ G) hr hk hx (setWr f) (fun _ => rfl) (fun _ => rfl) hkp v1 m2 m3 hrow ⟨ho, (hone.rd.keep hkp (fun g' hg h' => by rw [List.mem_singleton.1 h'] at hg; exact hgG hg)).mono (fun g hg => List.mem_append_right _ hg), own_keep hone.lg hkp (hfar hone.gl), fun g hg => List.mem_append_left _ hg, fun g hg => List.mem_append_right _ (hone.gl g hg)⟩ (fun g hg => List.mem_append_right _ hg) (fun g' hg => ?_) (fun g' hg => ?_)
  · rcases List.mem_append.1 hg with h' | h'
    · exact .inr (hf g' h')
    · exact .inl h'
  · rcases List.mem_append.1 hg with h' | h'
    · exact own_lt ho h'
    · exact Nat.lt_of_lt_of_le (h.ltG g' h') hkp.size
set_option maxRecDepth 100000 in
set_option maxHeartbeats 12800000 in
theorem rPut_any {P : List Str} {w : World} {d : Nat} {F G : List Nat} {C : St} (h : Rf w d F G C) (hW : WF P C) (hP : PoolOk P) (hl : C.length ≤ 1000000) (i : Int) (key val : Str) :
    Calls Tryz.prog 46 #[.pointer (some ⟨d, 0, none⟩), .int .i64 i, sv key, sv val] w fun e w' => e = .returned (.tuple #[]) ∧ RTurn w w' d F G (putP C i key val) := by
  cases hh : has C i with
  | false =>
    have e0 : putP C i key val = C := by unfold putP; exact upd_none _ hh
    have CP := Lib.hid (place_any h hl i)
    rw [plc_no hh] at CP
    have HR := Lib.hid (RTurn.same0 h (Keeps.refl _ _) e0)
    clear h hh e0
    go_enter Tryz.func46, Tryz.ntmps46
    go_wp2_with fail
    refine CP.out.mono ?_
    rintro e w1 ⟨rfl, rfl⟩
    go_wp2_with fail
    refine bodyPost_ret (results_none rfl _ _ _) rfl ?_
    exact ⟨rfl, HR.out⟩
  | true =>
    have hR0 := hW.tree.row0
    obtain ⟨x, j, g, cap, ms, A1, A2, A3, p1, p2, p3, hf, hx, rfl, hp, hjn, hat, hz, hM, hpl⟩ := h.openM hR0 hh
    have CP := Lib.hid (place_any h hl x.id)
    rw [hp] at CP
    have hok := hW.ok x hx
    have hn1 : x.wr.length ≤ 1000000 := hP.leK hok.wr hok.wp
    have HEND : Hid (∀ W6, Keeps [g] w W6 → ∀ (v1 : Value) (nn : Nat), W6.ownsRow 0 88 2 v1 nn (rw pc (wrPut x.id key val x.wr)) → (∀ g ∈ fp v1, w.heap.size ≤ g) →
        W6.ownsRow 0 68 5 (.slice (some ⟨g, 0, none⟩) C.length cap) C.length (splice (rw (oc ms) C.reverse) (j * 5) [.int .i64 x.id, .int .i64 x.par, v1, .slice A2 x.rd.length p2, .slice A3 x.lg.length p3]) → RTurn w W6 d F G (putP C x.id key val)) := Lib.hid (fun W6 hk v1 nn ho hf hr => by
      obtain ⟨hk', hxx⟩ := hat
      have hnn := own_len ho
      rw [rw_len pc_len] at hnn
      obtain rfl : nn = (wrPut x.id key val x.wr).length := by omega
      exact hM.wrTurn hR0 hk' hxx (wrPut x.id key val) hk v1 hpl.o ho hf hr)
    have HASC := Lib.hid hok.wr
    have HAT := Lib.hid hat
    have HF0 := Lib.hid hpl.f
    have hdl := hpl.dl
    have HGL := Lib.hid hpl.gl
    have HROW := Lib.hid hM.row
    have HPW : Hid (AtP w A1 x.wr) := Lib.hid (AtP.of_own hpl.o.wr hn1)
    have HOW := Lib.hid hpl.o.wr
    have hpc1 : x.wr.length ≤ p1 := by
      obtain ⟨_, _, hv, h1, -, -⟩ := own_shape hpl.o.wr
      dsimp only at hv
      injection hv with e1 e2 e3
      omega
    obtain ⟨f0, c0, c1, c2, c3, c4, -, -, -⟩ := hpl
    obtain ⟨n, hn⟩ : ∃ n, C.length = n := ⟨_, rfl⟩
    have i0 : ¬ ((j : Int) < 0) := by omega
    have i2 : (0 : Int) ≤ (j : Int) := by omega
    have i3 : (j : Int) < (n : Int) := by omega
    rw [hn] at hjn f0 HF0 HROW HEND hl
    obtain ⟨l, hll⟩ : ∃ l, x.wr = l := ⟨_, rfl⟩
    rw [hll] at hn1 HEND HASC HPW HOW hpc1 c2
    obtain ⟨zi, hzi⟩ : ∃ z, x.id = z := ⟨_, rfl⟩
    obtain ⟨zp, hzp⟩ : ∃ z, x.par = z := ⟨_, rfl⟩
    obtain ⟨n2, hn2⟩ : ∃ z, x.rd.length = z := ⟨_, rfl⟩
    obtain ⟨n3, hn3⟩ : ∃ z, x.lg.length = z := ⟨_, rfl⟩
    obtain ⟨n1, hnn1⟩ : ∃ z, l.length = z := ⟨_, rfl⟩
    have HN1 := Lib.hid hnn1
    rw [hzi, hzp, hn2, hn3] at HEND
    rw [hzi] at c0 CP ⊢
    rw [hzp] at c1
    rw [hnn1] at c2 hn1 hpc1 HOW
    rw [hn2] at c3
    rw [hn3] at c4
    clear h hh hf hx hp hz hM hok hll hzi hzp hn2 hn3 hnn1 hn hat
    go_enter Tryz.func46, Tryz.ntmps46
    go_wp2_with fail
    refine CP.out.mono ?_
    rintro e w1 ⟨rfl, rfl⟩
    clear CP
    go_wp2_with fail
    obtain ⟨W, hW⟩ : ∃ W, w1.alloc (.cells #[.int .i64 zi, .int .i64 zp, .slice A1 n1 p1, .slice A2 n2 p2, .slice A3 n3 p3] 68) = W := ⟨_, rfl⟩
    obtain ⟨b, hb⟩ : ∃ b, w1.heap.size = b := ⟨_, rfl⟩
    have b0 : Blk W b 68 #[.int .i64 zi, .int .i64 zp, .slice A1 n1 p1, .slice A2 n2 p2, .slice A3 n3 p3] := by rw [← hW, ← hb]; exact Blk.new _ _ _
    have k0 : Keeps [] w1 W := by rw [← hW]; exact (Keeps.refl _ _).alloc _
    rw [hW]
    rw [hb]
    have KB := Lib.hid k0
    have BB := Lib.hid b0
    have HBW : Hid (w1.heap.size ≤ b) := Lib.hid (by omega)
    have x2 : W.cell? ⟨b, 2, none⟩ = some (.slice A1 n1 p1) := b0.cell 2
    have HRW : Hid (∀ W0, Keeps [] W W0 → Reads W0 W0.heap.size 2 A1 n1 (rw pc l)) := Lib.hid (fun W0 hk => reads_own (own_keep HOW.out (KB.out.trans hk (by simp)) (by simp)))
    have HPW2 := Lib.hid (HPW.out.keep k0)
    clear hW hb k0 b0 f0 c0 c1 c2 c3 c4 HPW HOW i0
    go_loopw [10] (fun iv wr => ∃ q : Nat, q ≤ n1 ∧ iv = .int .i64 q ∧ wr = W ∧ ∀ j (hj : j < l.length), j < q → l[j].1 < key) (fun iv _ => n1 - (intOf iv).toNat)
    case atStart => exact ⟨0, by omega, rfl, rfl, fun j _ h => absurd h (by omega)⟩
    case round =>
      obtain ⟨q, hq, rfl, rfl, hlt0⟩ := hrel
      have HLT := Lib.hid hlt0
      clear hlt0
      have HR1 : Hid (∀ W0, Keeps [] wr W0 → Reads W0 W0.heap.size 2 A1 q (rw pc (l.take q))) := Lib.hid (fun W0 hk => by
        have h1 := (HRW.out W0 hk).take hq
        rw [rw_take pc_len] at h1
        exact h1)
      have hs1 := run_take47 A1 n1 p1 q hq hpc1
      by_cases hlt : q < n1
      · obtain ⟨bl, off, hAA, -, hcl⟩ := HPW2.out.at_ (by rw [HN1.out]; omega)
        have hql : q < l.length := by rw [HN1.out]; exact hlt
        obtain ⟨y0, -⟩ := hcl q hql
        have j0 : (0 : Int) ≤ (q : Int) := by omega
        have j1 : (q : Int) < (n1 : Int) := by omega
        have hcmp := fun W => run_lssS l[q].1 key W
        obtain ⟨y, hy⟩ : ∃ y, l[q].1 = y := ⟨_, rfl⟩
        have HQL := Lib.hid hql
        replace y0 : wr.cell? ⟨bl, off + q * 2, none⟩ = some (sv y) := by rw [← hy]; exact y0
        clear hcmp
        have hcmp : Op.bytesLess y key = decide (y < key) := Proofs.bytesLess_eq _ _
        by_cases hly : y < key
        · rw [decide_eq_true hly] at hcmp
          have HN : Hid (∀ j (hj : j < l.length), j < q + 1 → l[j].1 < key) := Lib.hid (fun j hj hjq => by
            by_cases hj2 : j < q
            · exact HLT.out j hj hj2
            · obtain rfl : j = q := by omega
              rw [hy]; exact hly)
          clear hly hy hcl HLT hs1 hql
          subst hAA
          go_wp2_with fail
          exact ⟨⟨q + 1, by omega, rfl, (by first | rfl | trivial), HN.out⟩, by simp only [intOf]; omega⟩
        · rw [decide_eq_false hly] at hcmp
          have HSP : Hid (Spot l key q) := Lib.hid ⟨by omega, HLT.out, fun h => by rw [hy]; exact hly⟩
          have HR3 : Hid (∀ W0, Keeps [] wr W0 → Reads W0 W0.heap.size 2 (some ⟨bl, off + q * 2, none⟩) (n1 - q) (rw pc (l.drop q))) := Lib.hid (fun W0 hk => by
            have h1 := (HRW.out W0 hk).cut (k := q) (cap := p1) (by omega) hpc1
            rw [rw_drop pc_len, if_neg (by omega), hAA, Option.map_some, add_of_plain] at h1
            exact h1)
          have hs2 := run_drop47 A1 n1 p1 q hq
          rw [if_neg (by omega), hAA, Option.map_some, add_of_plain] at hs2
          have jm : 0 < n1 - q := by omega
          have hpc2 : n1 - q ≤ p1 - q := by omega
          have hmle : n1 - q ≤ 1000000 := by omega
          have hm1 : 1 ≤ n1 - q := by omega
          by_cases hye : y = key
          · have HEQ : Hid (l[q].1 = key) := Lib.hid (by exact hy.trans hye)
            have hs3 : ∀ W : World, (Instr.slice 47 (.slice (some ⟨bl, off + q * 2, none⟩) (n1 - q) (p1 - q)) (some (.int .i64 1)) none none).run Tryz.prog W = .ok (.slice (if p1 - q = 1 then some (⟨bl, off + q * 2, none⟩ : Addr) else (some (⟨bl, off + q * 2, none⟩ : Addr)).map (·.add (1 * 2))) (n1 - q - 1) (p1 - q - 1)) W := run_drop47 (some ⟨bl, off + q * 2, none⟩) (n1 - q) (p1 - q) 1 hm1
            have HR4 := Lib.hid (fun W0 (hk : Keeps [] wr W0) => (HR3.out W0 hk).cut (k := 1) (cap := p1 - q) hm1 hpc2)
            have e3 : ∀ W0 : World, (rw pc (l.drop q)).drop (1 * 2) = rw pc (l.drop (q + 1)) := fun _ => by rw [rw_drop pc_len, List.drop_drop]
            rw [e3 wr] at HR4
            obtain ⟨B, hB⟩ : ∃ B, (if p1 - q = 1 then some (⟨bl, off + q * 2, none⟩ : Addr) else (some (⟨bl, off + q * 2, none⟩ : Addr)).map (·.add (1 * 2))) = B := ⟨_, rfl⟩
            rw [hB] at hs3 HR4
            obtain ⟨m, hm⟩ : ∃ m, n1 - q - 1 = m := ⟨_, rfl⟩
            obtain ⟨cB, hcB⟩ : ∃ cB, p1 - q - 1 = cB := ⟨_, rfl⟩
            obtain ⟨mq, hmq⟩ : ∃ mq, n1 - q = mq := ⟨_, rfl⟩
            obtain ⟨cq, hcq⟩ : ∃ cq, p1 - q = cq := ⟨_, rfl⟩
            rw [hmq] at hm jm hs2 hs3 hmle hm1
            rw [hcq] at hcB hs2 hs3
            rw [hm] at hs3
            rw [hcB] at hs3
            rw [hmq, hm] at HR4
            have hmm : m ≤ 1000000 := by omega
            clear HR3
            have HR3 := Lib.hid HR4.out
            rw [hye] at y0 hcmp
            clear hye hly hy hcl HLT hql hB hm hcB hmq hcq HR4 e3 hpc2
            subst hAA
            by_cases h0 : zi = 0
            · by_cases hv : val = []
              · subst hv
                have e0 : (zi == 0) = true := by simpa using h0
                have H0 := Lib.hid h0
                clear h0
                go_upto_region 10 with fail
                refine pu10_any wr b n1 n2 n3 p1 p2 p3 q m cB (q + m) (some ⟨bl, off, none⟩) A2 A3 B zi zp l (l.drop (q + 1)) _ hq hn1 (by omega) BB.out hs1 (fun W0 hk => HR1.out W0 hk) (fun W0 hk => HR3.out W0 hk) rfl _ _ _ _ _ _ _ _ _ _ _ _ _ _ _ _ _ _ _ _ _ _ _ _ _ _ _ _ _ _ _ _ _ _ _ _ _ _ _ _ _ _ _ _ _ _ _ _ _ _ _ _ _ _ _ _ _ _ _ _ _ _ _ _ _ _ _ _ _ _ _ _ _ _ _ _ _ _ _ _ _ _ _ _ _ _ _ _ _ _ _ ?_
                intro v64 v65 v66 v67 v68 v69 v70 v71 v72 v3 W5 o5 b5 k5 f5
                have hlst := (show wrPut zi key [] l = l.take q ++ (l.drop (q + 1)) from by unfold wrPut; rw [if_pos ⟨H0.out, rfl⟩]; exact mdel_eq HASC.out HSP.out HQL.out HEQ.out)
                obtain ⟨A5, p5, rfl, -, -, -⟩ := own_shape o5
                have O5 := Lib.hid o5
                have B5 := Lib.hid b5
                have F5 := Lib.hid f5
                have K5 : Hid (Keeps [] w1 W5) := Lib.hid (KB.out.trans k5 (fun g' hg => .inr (by rw [List.mem_singleton.1 hg]; exact HBW.out)))
                have HLST := Lib.hid hlst
                clear o5 b5 f5 k5 hlst
                go_upto_region 12 with fail
                refine pu12_any W5 d b g n cap j (q + m) n2 n3 p5 p2 p3 A5 A2 A3 zi zp (rw (oc ms) C.reverse) _ ?_ ?_ hjn i2 i3 _ _ _ _ _ _ _ _ _ _ _ _ _ _ _ _ _ _ _ _ _ _ _ _ _ _ _ _ _ _ _ _ _ _ _ _ _ _ _ _ _ _ _ _ _ _ _ _ _ _ _ _ _ _ _ _ _ _ _ _ _ _ _ _ _ _ _ _ _ _ _ _ _ _ _ _ _ _ _ _ _ _ _ _ _ _ _ _ _ _ _ ?_
                · intro W' hk
                  have b1 := B5.out.keep hk (by simp)
                  exact ⟨((K5.out.trans hk (by simp)).cell (p := ⟨d, _, none⟩) hdl (by simp)).trans HF0.out, b1.cell 0, b1.cell 1, b1.cell 2, b1.cell 3, b1.cell 4⟩
                · intro W' hk
                  exact own_keep HROW.out (K5.out.trans hk (by simp)) (by simp)
                intro v87 v88 v89 v90 v91 v92 v93 w6 W6 k6 o6 k7
                have K6 := Lib.hid k6
                have O6 := Lib.hid o6
                have K7 := Lib.hid k7
                clear k6 o6 k7
                go_wp2_with fail
                go_end0
                refine ⟨rfl, ?_⟩
                obtain ⟨hk, hxx⟩ := HAT.out
                have kw6 : Keeps [] w1 w6 := K5.out.trans K6.out (by simp)
                have kg : Keeps [g] w1 W6 := (kw6.mono (by simp)).trans K7.out (by simp)
                have o7 : W6.ownsRow 0 88 2 (.slice A5 (q + m) p5) (q + m) _ := own_keep (own_keep O5.out K6.out (by simp)) K7.out (fun g' hg h' => by
                  rw [List.mem_singleton.1 h'] at hg
                  have h1 := F5.out g hg
                  have h2 := KB.out.size
                  have h3 := HGL.out
                  omega)
                rw [HLST.out.symm] at o7
                exact HEND.out W6 kg _ _ o7 (fun g' hg => Nat.le_trans KB.out.size (F5.out g' hg)) O6.out
              · have e0 : (zi == 0) = true := by simpa using h0
                have v1 : val.isEmpty = false := by cases val <;> simp_all
                have v2 : (val == ([] : Str)) = false := by simpa using hv
                have H0 := Lib.hid h0
                have HV := Lib.hid hv
                clear h0 hv
                go_upto_region 11 with fail
                refine pu11_any wr b n1 n2 n3 p1 p2 p3 q m cB (q + 1 + m) (some ⟨bl, off, none⟩) A2 A3 B zi zp key val l (l.drop (q + 1)) _ hq hn1 (by omega) BB.out hs1 (fun W0 hk => HR1.out W0 hk) (fun W0 hk => HR3.out W0 hk) rfl _ _ _ _ _ _ _ _ _ _ _ _ _ _ _ _ _ _ _ _ _ _ _ _ _ _ _ _ _ _ _ _ _ _ _ _ _ _ _ _ _ _ _ _ _ _ _ _ _ _ _ _ _ _ _ _ _ _ _ _ _ _ _ _ _ _ _ _ _ _ _ _ _ _ _ _ _ _ _ _ _ _ _ _ _ _ _ _ _ ?_
                intro v73 v74 v75 v76 v77 v78 v79 v80 v81 v82 v83 v84 v85 v86 v3 W5 o5 b5 k5 f5
                have hlst := (show wrPut zi key val l = l.take q ++ (key, val) :: (l.drop (q + 1)) from by unfold wrPut; rw [if_neg (fun h => HV.out h.2)]; exact mput_eq HSP.out _ HQL.out HEQ.out)
                obtain ⟨A5, p5, rfl, -, -, -⟩ := own_shape o5
                have O5 := Lib.hid o5
                have B5 := Lib.hid b5
                have F5 := Lib.hid f5
                have K5 : Hid (Keeps [] w1 W5) := Lib.hid (KB.out.trans k5 (fun g' hg => .inr (by rw [List.mem_singleton.1 hg]; exact HBW.out)))
                have HLST := Lib.hid hlst
                clear o5 b5 f5 k5 hlst
                go_upto_region 12 with fail
                refine pu12_any W5 d b g n cap j (q + 1 + m) n2 n3 p5 p2 p3 A5 A2 A3 zi zp (rw (oc ms) C.reverse) _ ?_ ?_ hjn i2 i3 _ _ _ _ _ _ _ _ _ _ _ _ _ _ _ _ _ _ _ _ _ _ _ _ _ _ _ _ _ _ _ _ _ _ _ _ _ _ _ _ _ _ _ _ _ _ _ _ _ _ _ _ _ _ _ _ _ _ _ _ _ _ _ _ _ _ _ _ _ _ _ _ _ _ _ _ _ _ _ _ _ _ _ _ _ _ _ _ _ _ _ ?_
                · intro W' hk
                  have b1 := B5.out.keep hk (by simp)
                  exact ⟨((K5.out.trans hk (by simp)).cell (p := ⟨d, _, none⟩) hdl (by simp)).trans HF0.out, b1.cell 0, b1.cell 1, b1.cell 2, b1.cell 3, b1.cell 4⟩
                · intro W' hk
                  exact own_keep HROW.out (K5.out.trans hk (by simp)) (by simp)
                intro v87 v88 v89 v90 v91 v92 v93 w6 W6 k6 o6 k7
                have K6 := Lib.hid k6
                have O6 := Lib.hid o6
                have K7 := Lib.hid k7
                clear k6 o6 k7
                go_wp2_with fail
                go_end0
                refine ⟨rfl, ?_⟩
                obtain ⟨hk, hxx⟩ := HAT.out
                have kw6 : Keeps [] w1 w6 := K5.out.trans K6.out (by simp)
                have kg : Keeps [g] w1 W6 := (kw6.mono (by simp)).trans K7.out (by simp)
                have o7 : W6.ownsRow 0 88 2 (.slice A5 (q + 1 + m) p5) (q + 1 + m) _ := own_keep (own_keep O5.out K6.out (by simp)) K7.out (fun g' hg h' => by
                  rw [List.mem_singleton.1 h'] at hg
                  have h1 := F5.out g hg
                  have h2 := KB.out.size
                  have h3 := HGL.out
                  omega)
                rw [HLST.out.symm] at o7
                exact HEND.out W6 kg _ _ o7 (fun g' hg => Nat.le_trans KB.out.size (F5.out g' hg)) O6.out
            · have e0 : (zi == 0) = false := by simpa using h0
              have H0 := Lib.hid h0
              clear h0
              go_upto_region 11 with fail
              refine pu11_any wr b n1 n2 n3 p1 p2 p3 q m cB (q + 1 + m) (some ⟨bl, off, none⟩) A2 A3 B zi zp key val l (l.drop (q + 1)) _ hq hn1 (by omega) BB.out hs1 (fun W0 hk => HR1.out W0 hk) (fun W0 hk => HR3.out W0 hk) rfl _ _ _ _ _ _ _ _ _ _ _ _ _ _ _ _ _ _ _ _ _ _ _ _ _ _ _ _ _ _ _ _ _ _ _ _ _ _ _ _ _ _ _ _ _ _ _ _ _ _ _ _ _ _ _ _ _ _ _ _ _ _ _ _ _ _ _ _ _ _ _ _ _ _ _ _ _ _ _ _ _ _ _ _ _ _ _ _ _ ?_
              intro v73 v74 v75 v76 v77 v78 v79 v80 v81 v82 v83 v84 v85 v86 v3 W5 o5 b5 k5 f5
              have hlst := (show wrPut zi key val l = l.take q ++ (key, val) :: (l.drop (q + 1)) from by unfold wrPut; rw [if_neg (fun h => H0.out h.1)]; exact mput_eq HSP.out _ HQL.out HEQ.out)
              obtain ⟨A5, p5, rfl, -, -, -⟩ := own_shape o5
              have O5 := Lib.hid o5
              have B5 := Lib.hid b5
              have F5 := Lib.hid f5
              have K5 : Hid (Keeps [] w1 W5) := Lib.hid (KB.out.trans k5 (fun g' hg => .inr (by rw [List.mem_singleton.1 hg]; exact HBW.out)))
              have HLST := Lib.hid hlst
              clear o5 b5 f5 k5 hlst
              go_upto_region 12 with fail
              refine pu12_any W5 d b g n cap j (q + 1 + m) n2 n3 p5 p2 p3 A5 A2 A3 zi zp (rw (oc ms) C.reverse) _ ?_ ?_ hjn i2 i3 _ _ _ _ _ _ _ _ _ _ _ _ _ _ _ _ _ _ _ _ _ _ _ _ _ _ _ _ _ _ _ _ _ _ _ _ _ _ _ _ _ _ _ _ _ _ _ _ _ _ _ _ _ _ _ _ _ _ _ _ _ _ _ _ _ _ _ _ _ _ _ _ _ _ _ _ _ _ _ _ _ _ _ _ _ _ _ _ _ _ _ ?_
              · intro W' hk
                have b1 := B5.out.keep hk (by simp)
                exact ⟨((K5.out.trans hk (by simp)).cell (p := ⟨d, _, none⟩) hdl (by simp)).trans HF0.out, b1.cell 0, b1.cell 1, b1.cell 2, b1.cell 3, b1.cell 4⟩
              · intro W' hk
                exact own_keep HROW.out (K5.out.trans hk (by simp)) (by simp)
              intro v87 v88 v89 v90 v91 v92 v93 w6 W6 k6 o6 k7
              have K6 := Lib.hid k6
              have O6 := Lib.hid o6
              have K7 := Lib.hid k7
              clear k6 o6 k7
              go_wp2_with fail
              go_end0
              refine ⟨rfl, ?_⟩
              obtain ⟨hk, hxx⟩ := HAT.out
              have kw6 : Keeps [] w1 w6 := K5.out.trans K6.out (by simp)
              have kg : Keeps [g] w1 W6 := (kw6.mono (by simp)).trans K7.out (by simp)
              have o7 : W6.ownsRow 0 88 2 (.slice A5 (q + 1 + m) p5) (q + 1 + m) _ := own_keep (own_keep O5.out K6.out (by simp)) K7.out (fun g' hg h' => by
                rw [List.mem_singleton.1 h'] at hg
                have h1 := F5.out g hg
                have h2 := KB.out.size
                have h3 := HGL.out
                omega)
              rw [HLST.out.symm] at o7
              exact HEND.out W6 kg _ _ o7 (fun g' hg => Nat.le_trans KB.out.size (F5.out g' hg)) O6.out
          · have hne : (y == key) = false := by simpa using hye
            have HNE : Hid (l[q].1 ≠ key) := Lib.hid (fun e => hye (hy.symm.trans e))
            obtain ⟨m, hm⟩ : ∃ m, n1 - q = m := ⟨_, rfl⟩
            obtain ⟨cB, hcB⟩ : ∃ cB, p1 - q = cB := ⟨_, rfl⟩
            rw [hm] at jm hs2 hmle HR3
            rw [hcB] at hs2
            clear hly hy hcl HLT hql hye hcB hpc2 hm1
            have hmm : m ≤ 1000000 := hmle
            clear hm
            subst hAA
            by_cases h0 : zi = 0
            · by_cases hv : val = []
              · subst hv
                have e0 : (zi == 0) = true := by simpa using h0
                have H0 := Lib.hid h0
                clear h0
                go_upto_region 10 with fail
                refine pu10_any wr b n1 n2 n3 p1 p2 p3 q m cB (q + m) (some ⟨bl, off, none⟩) A2 A3 (some ⟨bl, off + q * 2, none⟩) zi zp l (l.drop q) _ hq hn1 (by omega) BB.out hs1 (fun W0 hk => HR1.out W0 hk) (fun W0 hk => HR3.out W0 hk) rfl _ _ _ _ _ _ _ _ _ _ _ _ _ _ _ _ _ _ _ _ _ _ _ _ _ _ _ _ _ _ _ _ _ _ _ _ _ _ _ _ _ _ _ _ _ _ _ _ _ _ _ _ _ _ _ _ _ _ _ _ _ _ _ _ _ _ _ _ _ _ _ _ _ _ _ _ _ _ _ _ _ _ _ _ _ _ _ _ _ _ _ ?_
                intro v64 v65 v66 v67 v68 v69 v70 v71 v72 v3 W5 o5 b5 k5 f5
                have hlst := (show wrPut zi key [] l = l.take q ++ (l.drop q) from by unfold wrPut; rw [if_pos ⟨H0.out, rfl⟩]; exact mdel_ne HASC.out HSP.out (fun _ => HNE.out))
                obtain ⟨A5, p5, rfl, -, -, -⟩ := own_shape o5
                have O5 := Lib.hid o5
                have B5 := Lib.hid b5
                have F5 := Lib.hid f5
                have K5 : Hid (Keeps [] w1 W5) := Lib.hid (KB.out.trans k5 (fun g' hg => .inr (by rw [List.mem_singleton.1 hg]; exact HBW.out)))
                have HLST := Lib.hid hlst
                clear o5 b5 f5 k5 hlst
                go_upto_region 12 with fail
                refine pu12_any W5 d b g n cap j (q + m) n2 n3 p5 p2 p3 A5 A2 A3 zi zp (rw (oc ms) C.reverse) _ ?_ ?_ hjn i2 i3 _ _ _ _ _ _ _ _ _ _ _ _ _ _ _ _ _ _ _ _ _ _ _ _ _ _ _ _ _ _ _ _ _ _ _ _ _ _ _ _ _ _ _ _ _ _ _ _ _ _ _ _ _ _ _ _ _ _ _ _ _ _ _ _ _ _ _ _ _ _ _ _ _ _ _ _ _ _ _ _ _ _ _ _ _ _ _ _ _ _ _ ?_
                · intro W' hk
                  have b1 := B5.out.keep hk (by simp)
                  exact ⟨((K5.out.trans hk (by simp)).cell (p := ⟨d, _, none⟩) hdl (by simp)).trans HF0.out, b1.cell 0, b1.cell 1, b1.cell 2, b1.cell 3, b1.cell 4⟩
                · intro W' hk
                  exact own_keep HROW.out (K5.out.trans hk (by simp)) (by simp)
                intro v87 v88 v89 v90 v91 v92 v93 w6 W6 k6 o6 k7
                have K6 := Lib.hid k6
                have O6 := Lib.hid o6
                have K7 := Lib.hid k7
                clear k6 o6 k7
                go_wp2_with fail
                go_end0
                refine ⟨rfl, ?_⟩
                obtain ⟨hk, hxx⟩ := HAT.out
                have kw6 : Keeps [] w1 w6 := K5.out.trans K6.out (by simp)
                have kg : Keeps [g] w1 W6 := (kw6.mono (by simp)).trans K7.out (by simp)
                have o7 : W6.ownsRow 0 88 2 (.slice A5 (q + m) p5) (q + m) _ := own_keep (own_keep O5.out K6.out (by simp)) K7.out (fun g' hg h' => by
                  rw [List.mem_singleton.1 h'] at hg
                  have h1 := F5.out g hg
                  have h2 := KB.out.size
                  have h3 := HGL.out
                  omega)
                rw [HLST.out.symm] at o7
                exact HEND.out W6 kg _ _ o7 (fun g' hg => Nat.le_trans KB.out.size (F5.out g' hg)) O6.out
              · have e0 : (zi == 0) = true := by simpa using h0
                have v1 : val.isEmpty = false := by cases val <;> simp_all
                have v2 : (val == ([] : Str)) = false := by simpa using hv
                have H0 := Lib.hid h0
                have HV := Lib.hid hv
                clear h0 hv
                go_upto_region 11 with fail
                refine pu11_any wr b n1 n2 n3 p1 p2 p3 q m cB (q + 1 + m) (some ⟨bl, off, none⟩) A2 A3 (some ⟨bl, off + q * 2, none⟩) zi zp key val l (l.drop q) _ hq hn1 (by omega) BB.out hs1 (fun W0 hk => HR1.out W0 hk) (fun W0 hk => HR3.out W0 hk) rfl _ _ _ _ _ _ _ _ _ _ _ _ _ _ _ _ _ _ _ _ _ _ _ _ _ _ _ _ _ _ _ _ _ _ _ _ _ _ _ _ _ _ _ _ _ _ _ _ _ _ _ _ _ _ _ _ _ _ _ _ _ _ _ _ _ _ _ _ _ _ _ _ _ _ _ _ _ _ _ _ _ _ _ _ _ _ _ _ _ ?_
                intro v73 v74 v75 v76 v77 v78 v79 v80 v81 v82 v83 v84 v85 v86 v3 W5 o5 b5 k5 f5
                have hlst := (show wrPut zi key val l = l.take q ++ (key, val) :: (l.drop q) from by unfold wrPut; rw [if_neg (fun h => HV.out h.2)]; exact mput_ne HSP.out _ (fun _ => HNE.out))
                obtain ⟨A5, p5, rfl, -, -, -⟩ := own_shape o5
                have O5 := Lib.hid o5
                have B5 := Lib.hid b5
                have F5 := Lib.hid f5
                have K5 : Hid (Keeps [] w1 W5) := Lib.hid (KB.out.trans k5 (fun g' hg => .inr (by rw [List.mem_singleton.1 hg]; exact HBW.out)))
                have HLST := Lib.hid hlst
                clear o5 b5 f5 k5 hlst
                go_upto_region 12 with fail
                refine pu12_any W5 d b g n cap j (q + 1 + m) n2 n3 p5 p2 p3 A5 A2 A3 zi zp (rw (oc ms) C.reverse) _ ?_ ?_ hjn i2 i3 _ _ _ _ _ _ _ _ _ _ _ _ _ _ _ _ _ _ _ _ _ _ _ _ _ _ _ _ _ _ _ _ _ _ _ _ _ _ _ _ _ _ _ _ _ _ _ _ _ _ _ _ _ _ _ _ _ _ _ _ _ _ _ _ _ _ _ _ _ _ _ _ _ _ _ _ _ _ _ _ _ _ _ _ _ _ _ _ _ _ _ ?_
                · intro W' hk
                  have b1 := B5.out.keep hk (by simp)
                  exact ⟨((K5.out.trans hk (by simp)).cell (p := ⟨d, _, none⟩) hdl (by simp)).trans HF0.out, b1.cell 0, b1.cell 1, b1.cell 2, b1.cell 3, b1.cell 4⟩
                · intro W' hk
                  exact own_keep HROW.out (K5.out.trans hk (by simp)) (by simp)
                intro v87 v88 v89 v90 v91 v92 v93 w6 W6 k6 o6 k7
                have K6 := Lib.hid k6
                have O6 := Lib.hid o6
                have K7 := Lib.hid k7
                clear k6 o6 k7
                go_wp2_with fail
                go_end0
                refine ⟨rfl, ?_⟩
                obtain ⟨hk, hxx⟩ := HAT.out
                have kw6 : Keeps [] w1 w6 := K5.out.trans K6.out (by simp)
                have kg : Keeps [g] w1 W6 := (kw6.mono (by simp)).trans K7.out (by simp)
                have o7 : W6.ownsRow 0 88 2 (.slice A5 (q + 1 + m) p5) (q + 1 + m) _ := own_keep (own_keep O5.out K6.out (by simp)) K7.out (fun g' hg h' => by
                  rw [List.mem_singleton.1 h'] at hg
                  have h1 := F5.out g hg
                  have h2 := KB.out.size
                  have h3 := HGL.out
                  omega)
                rw [HLST.out.symm] at o7
                exact HEND.out W6 kg _ _ o7 (fun g' hg => Nat.le_trans KB.out.size (F5.out g' hg)) O6.out
            · have e0 : (zi == 0) = false := by simpa using h0
              have H0 := Lib.hid h0
              clear h0
              go_upto_region 11 with fail
              refine pu11_any wr b n1 n2 n3 p1 p2 p3 q m cB (q + 1 + m) (some ⟨bl, off, none⟩) A2 A3 (some ⟨bl, off + q * 2, none⟩) zi zp key val l (l.drop q) _ hq hn1 (by omega) BB.out hs1 (fun W0 hk => HR1.out W0 hk) (fun W0 hk => HR3.out W0 hk) rfl _ _ _ _ _ _ _ _ _ _ _ _ _ _ _ _ _ _ _ _ _ _ _ _ _ _ _ _ _ _ _ _ _ _ _ _ _ _ _ _ _ _ _ _ _ _ _ _ _ _ _ _ _ _ _ _ _ _ _ _ _ _ _ _ _ _ _ _ _ _ _ _ _ _ _ _ _ _ _ _ _ _ _ _ _ _ _ _ _ ?_
              intro v73 v74 v75 v76 v77 v78 v79 v80 v81 v82 v83 v84 v85 v86 v3 W5 o5 b5 k5 f5
              have hlst := (show wrPut zi key val l = l.take q ++ (key, val) :: (l.drop q) from by unfold wrPut; rw [if_neg (fun h => H0.out h.1)]; exact mput_ne HSP.out _ (fun _ => HNE.out))
              obtain ⟨A5, p5, rfl, -, -, -⟩ := own_shape o5
              have O5 := Lib.hid o5
              have B5 := Lib.hid b5
              have F5 := Lib.hid f5
              have K5 : Hid (Keeps [] w1 W5) := Lib.hid (KB.out.trans k5 (fun g' hg => .inr (by rw [List.mem_singleton.1 hg]; exact HBW.out)))
              have HLST := Lib.hid hlst
              clear o5 b5 f5 k5 hlst
              go_upto_region 12 with fail
              refine pu12_any W5 d b g n cap j (q + 1 + m) n2 n3 p5 p2 p3 A5 A2 A3 zi zp (rw (oc ms) C.reverse) _ ?_ ?_ hjn i2 i3 _ _ _ _ _ _ _ _ _ _ _ _ _ _ _ _ _ _ _ _ _ _ _ _ _ _ _ _ _ _ _ _ _ _ _ _ _ _ _ _ _ _ _ _ _ _ _ _ _ _ _ _ _ _ _ _ _ _ _ _ _ _ _ _ _ _ _ _ _ _ _ _ _ _ _ _ _ _ _ _ _ _ _ _ _ _ _ _ _ _ _ ?_
              · intro W' hk
                have b1 := B5.out.keep hk (by simp)
                exact ⟨((K5.out.trans hk (by simp)).cell (p := ⟨d, _, none⟩) hdl (by simp)).trans HF0.out, b1.cell 0, b1.cell 1, b1.cell 2, b1.cell 3, b1.cell 4⟩
              · intro W' hk
                exact own_keep HROW.out (K5.out.trans hk (by simp)) (by simp)
              intro v87 v88 v89 v90 v91 v92 v93 w6 W6 k6 o6 k7
              have K6 := Lib.hid k6
              have O6 := Lib.hid o6
              have K7 := Lib.hid k7
              clear k6 o6 k7
              go_wp2_with fail
              go_end0
              refine ⟨rfl, ?_⟩
              obtain ⟨hk, hxx⟩ := HAT.out
              have kw6 : Keeps [] w1 w6 := K5.out.trans K6.out (by simp)
              have kg : Keeps [g] w1 W6 := (kw6.mono (by simp)).trans K7.out (by simp)
              have o7 : W6.ownsRow 0 88 2 (.slice A5 (q + 1 + m) p5) (q + 1 + m) _ := own_keep (own_keep O5.out K6.out (by simp)) K7.out (fun g' hg h' => by
                rw [List.mem_singleton.1 h'] at hg
                have h1 := F5.out g hg
                have h2 := KB.out.size
                have h3 := HGL.out
                omega)
              rw [HLST.out.symm] at o7
              exact HEND.out W6 kg _ _ o7 (fun g' hg => Nat.le_trans KB.out.size (F5.out g' hg)) O6.out
      · obtain rfl : q = n1 := by omega
        have j1 : ¬ ((q : Int) < (q : Int)) := by omega
        have hqq : q = l.length := HN1.out.symm
        have HSP : Hid (Spot l key q) := Lib.hid ⟨by omega, HLT.out, fun h => absurd h (by omega)⟩
        have hs2 := run_drop47 A1 q p1 q hq
        rw [Nat.sub_self] at hs2
        obtain ⟨B, hB⟩ : ∃ B, (if p1 = q then A1 else A1.map (·.add (q * 2))) = B := ⟨_, rfl⟩
        obtain ⟨cB, hcB⟩ : ∃ cB, p1 - q = cB := ⟨_, rfl⟩
        rw [hB, hcB] at hs2
        have HQQ := Lib.hid hqq
        clear hB hcB HLT hqq
        by_cases h0 : zi = 0
        · by_cases hv : val = []
          · subst hv
            have e0 : (zi == 0) = true := by simpa using h0
            have H0 := Lib.hid h0
            clear h0
            go_upto_region 10 with fail
            refine pu10_any wr b q n2 n3 p1 p2 p3 q 0 cB q A1 A2 A3 B zi zp l [] _ hq hn1 (by omega) BB.out hs1 (fun W0 hk => HR1.out W0 hk) (fun W0 hk => ⟨rfl, fun h => absurd h (by omega)⟩) rfl _ _ _ _ _ _ _ _ _ _ _ _ _ _ _ _ _ _ _ _ _ _ _ _ _ _ _ _ _ _ _ _ _ _ _ _ _ _ _ _ _ _ _ _ _ _ _ _ _ _ _ _ _ _ _ _ _ _ _ _ _ _ _ _ _ _ _ _ _ _ _ _ _ _ _ _ _ _ _ _ _ _ _ _ _ _ _ _ _ _ _ ?_
            intro v64 v65 v66 v67 v68 v69 v70 v71 v72 v3 W5 o5 b5 k5 f5
            have hlst := (show wrPut zi key [] l = l.take q ++ [] from by unfold wrPut; rw [if_pos ⟨H0.out, rfl⟩]; exact by rw [mdel_ne HASC.out HSP.out (fun h => absurd h (by have := HQQ.out; omega)), List.drop_of_length_le (by have := HQQ.out; omega)])
            obtain ⟨A5, p5, rfl, -, -, -⟩ := own_shape o5
            have O5 := Lib.hid o5
            have B5 := Lib.hid b5
            have F5 := Lib.hid f5
            have K5 : Hid (Keeps [] w1 W5) := Lib.hid (KB.out.trans k5 (fun g' hg => .inr (by rw [List.mem_singleton.1 hg]; exact HBW.out)))
            have HLST := Lib.hid hlst
            clear o5 b5 f5 k5 hlst
            go_upto_region 12 with fail
            refine pu12_any W5 d b g n cap j q n2 n3 p5 p2 p3 A5 A2 A3 zi zp (rw (oc ms) C.reverse) _ ?_ ?_ hjn i2 i3 _ _ _ _ _ _ _ _ _ _ _ _ _ _ _ _ _ _ _ _ _ _ _ _ _ _ _ _ _ _ _ _ _ _ _ _ _ _ _ _ _ _ _ _ _ _ _ _ _ _ _ _ _ _ _ _ _ _ _ _ _ _ _ _ _ _ _ _ _ _ _ _ _ _ _ _ _ _ _ _ _ _ _ _ _ _ _ _ _ _ _ ?_
            · intro W' hk
              have b1 := B5.out.keep hk (by simp)
              exact ⟨((K5.out.trans hk (by simp)).cell (p := ⟨d, _, none⟩) hdl (by simp)).trans HF0.out, b1.cell 0, b1.cell 1, b1.cell 2, b1.cell 3, b1.cell 4⟩
            · intro W' hk
              exact own_keep HROW.out (K5.out.trans hk (by simp)) (by simp)
            intro v87 v88 v89 v90 v91 v92 v93 w6 W6 k6 o6 k7
            have K6 := Lib.hid k6
            have O6 := Lib.hid o6
            have K7 := Lib.hid k7
            clear k6 o6 k7
            go_wp2_with fail
            go_end0
            refine ⟨rfl, ?_⟩
            obtain ⟨hk, hxx⟩ := HAT.out
            have kw6 : Keeps [] w1 w6 := K5.out.trans K6.out (by simp)
            have kg : Keeps [g] w1 W6 := (kw6.mono (by simp)).trans K7.out (by simp)
            have o7 : W6.ownsRow 0 88 2 (.slice A5 q p5) q _ := own_keep (own_keep O5.out K6.out (by simp)) K7.out (fun g' hg h' => by
              rw [List.mem_singleton.1 h'] at hg
              have h1 := F5.out g hg
              have h2 := KB.out.size
              have h3 := HGL.out
              omega)
            rw [HLST.out.symm] at o7
            exact HEND.out W6 kg _ _ o7 (fun g' hg => Nat.le_trans KB.out.size (F5.out g' hg)) O6.out
          · have e0 : (zi == 0) = true := by simpa using h0
            have v1 : val.isEmpty = false := by cases val <;> simp_all
            have v2 : (val == ([] : Str)) = false := by simpa using hv
            have H0 := Lib.hid h0
            have HV := Lib.hid hv
            clear h0 hv
            go_upto_region 11 with fail
            refine pu11_any wr b q n2 n3 p1 p2 p3 q 0 cB (q + 1) A1 A2 A3 B zi zp key val l [] _ hq hn1 (by omega) BB.out hs1 (fun W0 hk => HR1.out W0 hk) (fun W0 hk => ⟨rfl, fun h => absurd h (by omega)⟩) rfl _ _ _ _ _ _ _ _ _ _ _ _ _ _ _ _ _ _ _ _ _ _ _ _ _ _ _ _ _ _ _ _ _ _ _ _ _ _ _ _ _ _ _ _ _ _ _ _ _ _ _ _ _ _ _ _ _ _ _ _ _ _ _ _ _ _ _ _ _ _ _ _ _ _ _ _ _ _ _ _ _ _ _ _ _ _ _ _ _ ?_
            intro v73 v74 v75 v76 v77 v78 v79 v80 v81 v82 v83 v84 v85 v86 v3 W5 o5 b5 k5 f5
            have hlst := (show wrPut zi key val l = l.take q ++ (key, val) :: [] from by unfold wrPut; rw [if_neg (fun h => HV.out h.2)]; exact by rw [mput_ne HSP.out _ (fun h => absurd h (by have := HQQ.out; omega)), List.drop_of_length_le (by have := HQQ.out; omega)])
            obtain ⟨A5, p5, rfl, -, -, -⟩ := own_shape o5
            have O5 := Lib.hid o5
            have B5 := Lib.hid b5
            have F5 := Lib.hid f5
            have K5 : Hid (Keeps [] w1 W5) := Lib.hid (KB.out.trans k5 (fun g' hg => .inr (by rw [List.mem_singleton.1 hg]; exact HBW.out)))
            have HLST := Lib.hid hlst
            clear o5 b5 f5 k5 hlst
            go_upto_region 12 with fail
            refine pu12_any W5 d b g n cap j (q + 1) n2 n3 p5 p2 p3 A5 A2 A3 zi zp (rw (oc ms) C.reverse) _ ?_ ?_ hjn i2 i3 _ _ _ _ _ _ _ _ _ _ _ _ _ _ _ _ _ _ _ _ _ _ _ _ _ _ _ _ _ _ _ _ _ _ _ _ _ _ _ _ _ _ _ _ _ _ _ _ _ _ _ _ _ _ _ _ _ _ _ _ _ _ _ _ _ _ _ _ _ _ _ _ _ _ _ _ _ _ _ _ _ _ _ _ _ _ _ _ _ _ _ ?_
            · intro W' hk
              have b1 := B5.out.keep hk (by simp)
              exact ⟨((K5.out.trans hk (by simp)).cell (p := ⟨d, _, none⟩) hdl (by simp)).trans HF0.out, b1.cell 0, b1.cell 1, b1.cell 2, b1.cell 3, b1.cell 4⟩
            · intro W' hk
              exact own_keep HROW.out (K5.out.trans hk (by simp)) (by simp)
            intro v87 v88 v89 v90 v91 v92 v93 w6 W6 k6 o6 k7
            have K6 := Lib.hid k6
            have O6 := Lib.hid o6
            have K7 := Lib.hid k7
            clear k6 o6 k7
            go_wp2_with fail
            go_end0
            refine ⟨rfl, ?_⟩
            obtain ⟨hk, hxx⟩ := HAT.out
            have kw6 : Keeps [] w1 w6 := K5.out.trans K6.out (by simp)
            have kg : Keeps [g] w1 W6 := (kw6.mono (by simp)).trans K7.out (by simp)
            have o7 : W6.ownsRow 0 88 2 (.slice A5 (q + 1) p5) (q + 1) _ := own_keep (own_keep O5.out K6.out (by simp)) K7.out (fun g' hg h' => by
              rw [List.mem_singleton.1 h'] at hg
              have h1 := F5.out g hg
              have h2 := KB.out.size
              have h3 := HGL.out
              omega)
            rw [HLST.out.symm] at o7
            exact HEND.out W6 kg _ _ o7 (fun g' hg => Nat.le_trans KB.out.size (F5.out g' hg)) O6.out
        · have e0 : (zi == 0) = false := by simpa using h0
          have H0 := Lib.hid h0
          clear h0
          go_upto_region 11 with fail
          refine pu11_any wr b q n2 n3 p1 p2 p3 q 0 cB (q + 1) A1 A2 A3 B zi zp key val l [] _ hq hn1 (by omega) BB.out hs1 (fun W0 hk => HR1.out W0 hk) (fun W0 hk => ⟨rfl, fun h => absurd h (by omega)⟩) rfl _ _ _ _ _ _ _ _ _ _ _ _ _ _ _ _ _ _ _ _ _ _ _ _ _ _ _ _ _ _ _ _ _ _ _ _ _ _ _ _ _ _ _ _ _ _ _ _ _ _ _ _ _ _ _ _ _ _ _ _ _ _ _ _ _ _ _ _ _ _ _ _ _ _ _ _ _ _ _ _ _ _ _ _ _ _ _ _ _ ?_
          intro v73 v74 v75 v76 v77 v78 v79 v80 v81 v82 v83 v84 v85 v86 v3 W5 o5 b5 k5 f5
          have hlst := (show wrPut zi key val l = l.take q ++ (key, val) :: [] from by unfold wrPut; rw [if_neg (fun h => H0.out h.1)]; exact by rw [mput_ne HSP.out _ (fun h => absurd h (by have := HQQ.out; omega)), List.drop_of_length_le (by have := HQQ.out; omega)])
          obtain ⟨A5, p5, rfl, -, -, -⟩ := own_shape o5
          have O5 := Lib.hid o5
          have B5 := Lib.hid b5
          have F5 := Lib.hid f5
          have K5 : Hid (Keeps [] w1 W5) := Lib.hid (KB.out.trans k5 (fun g' hg => .inr (by rw [List.mem_singleton.1 hg]; exact HBW.out)))
          have HLST := Lib.hid hlst
          clear o5 b5 f5 k5 hlst
          go_upto_region 12 with fail
          refine pu12_any W5 d b g n cap j (q + 1) n2 n3 p5 p2 p3 A5 A2 A3 zi zp (rw (oc ms) C.reverse) _ ?_ ?_ hjn i2 i3 _ _ _ _ _ _ _ _ _ _ _ _ _ _ _ _ _ _ _ _ _ _ _ _ _ _ _ _ _ _ _ _ _ _ _ _ _ _ _ _ _ _ _ _ _ _ _ _ _ _ _ _ _ _ _ _ _ _ _ _ _ _ _ _ _ _ _ _ _ _ _ _ _ _ _ _ _ _ _ _ _ _ _ _ _ _ _ _ _ _ _ ?_
          · intro W' hk
            have b1 := B5.out.keep hk (by simp)
            exact ⟨((K5.out.trans hk (by simp)).cell (p := ⟨d, _, none⟩) hdl (by simp)).trans HF0.out, b1.cell 0, b1.cell 1, b1.cell 2, b1.cell 3, b1.cell 4⟩
          · intro W' hk
            exact own_keep HROW.out (K5.out.trans hk (by simp)) (by simp)
          intro v87 v88 v89 v90 v91 v92 v93 w6 W6 k6 o6 k7
          have K6 := Lib.hid k6
          have O6 := Lib.hid o6
          have K7 := Lib.hid k7
          clear k6 o6 k7
          go_wp2_with fail
          go_end0
          refine ⟨rfl, ?_⟩
          obtain ⟨hk, hxx⟩ := HAT.out
          have kw6 : Keeps [] w1 w6 := K5.out.trans K6.out (by simp)
          have kg : Keeps [g] w1 W6 := (kw6.mono (by simp)).trans K7.out (by simp)
          have o7 : W6.ownsRow 0 88 2 (.slice A5 (q + 1) p5) (q + 1) _ := own_keep (own_keep O5.out K6.out (by simp)) K7.out (fun g' hg h' => by
            rw [List.mem_singleton.1 h'] at hg
            have h1 := F5.out g hg
            have h2 := KB.out.size
            have h3 := HGL.out
            omega)
          rw [HLST.out.symm] at o7
          exact HEND.out W6 kg _ _ o7 (fun g' hg => Nat.le_trans KB.out.size (F5.out g' hg)) O6.out
end Go.Proofs.YtbllmpcpfmlemaaGreat
