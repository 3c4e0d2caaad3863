/- The texts Z1, Z2, Z3 in one. -/
import Derived.Test.YtbllmpcpfmlemaaGreatMV
namespace Go.Proofs.YtbllmpcpfmlemaaGreat
open Go.RowKit
section
variable {w : World} {c : Nat} {F G : List Nat} {C : St} {P : List Str}
set_option maxRecDepth 100000 in
set_option maxHeartbeats 1600000 in
theorem seesOp_any (h : Cs w c F G C) (hW : WF P C) {i : Int} (hi : I64 i) (k : Str) (hok : kS.ok k) :
    Calls Tryz.prog 16 #[.pointer (some ⟨c, 0, none⟩), .int .i64 i, sv k] w fun e w' => e = .returned (sv (sees C i k)) ∧ w' = w := by
  obtain ⟨m, Mo, L, h⟩ := h
  have f0 : w.cell? ⟨c, 0, none⟩ = some (.map (some m)) := h.cb.cell 0
  have l0 := h.look hi.1 hi.2
  cases hh : has C i with
  | false =>
    rw [sees_none hh]
    simp only [hh] at l0
    have l0' : (Instr.lookup 63 (.map (some m)) (.int .i64 i) false).run Tryz.prog w = .ok (.pointer none) w := l0
    clear h l0 hh hi
    go_enter Tryz.func16, Tryz.ntmps16
    go_wp2_with fail
    go_ret
    exact ⟨rfl, rfl⟩
  | true =>
    obtain ⟨x, hx⟩ := has_find hh
    obtain ⟨hxC, hxi⟩ := find_mem hx
    simp only [hh, if_true] at l0
    have l0' : (Instr.lookup 63 (.map (some m)) (.int .i64 i) false).run Tryz.prog w = .ok (.pointer (some ⟨(Mo i).b, 0, none⟩)) w := l0
    have hs := sees_any h hW.tree hxC k hok
    rw [hxi] at hs
    obtain ⟨v, hv⟩ : ∃ v, sees C i k = v := ⟨_, rfl⟩
    rw [hv] at hs ⊢
    have HS : Hid (Calls Tryz.prog 56 #[.pointer (some ⟨(Mo i).b, 0, none⟩), sv k] w fun e w' => e = .returned (sv v) ∧ w' = w) := Lib.hid hs
    generalize (Mo i).b = xb at l0' HS
    clear h l0 hh hi hW hx hxC hxi hs hv
    go_enter Tryz.func16, Tryz.ntmps16
    go_wp2_with fail
    refine HS.out.mono ?_
    rintro e w2 ⟨rfl, rfl⟩
    go_wp2_with fail
    go_ret
    exact ⟨rfl, rfl⟩
set_option maxRecDepth 100000 in
set_option maxHeartbeats 1600000 in
theorem seesKeysOp_any (h : Cs w c F G C) (hW : WF P C) (hP : PoolOk P) {i : Int} (hi : I64 i) (k : Str) (hok : kS.ok k) :
    Calls Tryz.prog 18 #[.pointer (some ⟨c, 0, none⟩), .int .i64 i, sv k] w fun e w' => (∃ v, e = .returned v ∧ w'.ownsRow 0 9 1 v (seesKeys C i k).length (vs (seesKeys C i k)) ∧ ∀ g ∈ fp v, w.heap.size ≤ g) ∧ Keeps [] w w' := by
  obtain ⟨m, Mo, L, h⟩ := h
  have f0 : w.cell? ⟨c, 0, none⟩ = some (.map (some m)) := h.cb.cell 0
  have l0 := h.look hi.1 hi.2
  cases hh : has C i with
  | false =>
    rw [seesKeys_none hh]
    simp only [hh] at l0
    have l0' : (Instr.lookup 63 (.map (some m)) (.int .i64 i) false).run Tryz.prog w = .ok (.pointer none) w := l0
    clear h l0 hh hi hW hP
    go_enter Tryz.func18, Tryz.ntmps18
    go_wp2_with fail
    go_ret
    exact ⟨⟨_, rfl, World.ownsRow_nil _ _ _ _, by simp⟩, Keeps.refl _ _⟩
  | true =>
    obtain ⟨x, hx⟩ := has_find hh
    obtain ⟨hxC, hxi⟩ := find_mem hx
    simp only [hh, if_true] at l0
    have l0' : (Instr.lookup 63 (.map (some m)) (.int .i64 i) false).run Tryz.prog w = .ok (.pointer (some ⟨(Mo i).b, 0, none⟩)) w := l0
    have hs := seesKeys_any h hW hP hxC k hok
    rw [hxi] at hs
    obtain ⟨q, hq⟩ : ∃ q, seesKeys C i k = q := ⟨_, rfl⟩
    rw [hq] at hs ⊢
    have HS : Hid (Calls Tryz.prog 58 #[.pointer (some ⟨(Mo i).b, 0, none⟩), sv k] w fun e w' => ∃ v, e = .returned v ∧ w'.ownsRow 0 9 1 v q.length (vs q) ∧ Keeps [] w w' ∧ ∀ g ∈ fp v, w.heap.size ≤ g) := Lib.hid hs
    generalize (Mo i).b = xb at l0' HS
    clear h l0 hh hi hW hP hx hxC hxi hs hq
    go_enter Tryz.func18, Tryz.ntmps18
    go_wp2_with fail
    refine HS.out.mono ?_
    rintro e w2 ⟨v, rfl, h1, h2, h3⟩
    have H1 := Lib.hid h1
    have H2 := Lib.hid h2
    have H3 := Lib.hid h3
    clear h1 h2 h3
    go_wp2_with fail
    go_ret
    exact ⟨⟨_, rfl, H1.out, H3.out⟩, H2.out⟩
def namesP (C : St) (i : Int) : List Str := match find C i with
  | none => []
  | some x => x.lg.map (·.1)
set_option maxRecDepth 100000 in
set_option maxHeartbeats 3200000 in
theorem names_any (h : Cs w c F G C) (hW : WF P C) (hP : PoolOk P) {i : Int} (hi : I64 i) :
    Calls Tryz.prog 30 #[.pointer (some ⟨c, 0, none⟩), .int .i64 i] w fun e w' => (∃ v, e = .returned v ∧ w'.ownsRow 0 9 1 v (namesP C i).length (vs (namesP C i)) ∧ ∀ g ∈ fp v, w.heap.size ≤ g) ∧ Keeps [] w w' := by
  obtain ⟨m, Mo, L, h⟩ := h
  have f0 : w.cell? ⟨c, 0, none⟩ = some (.map (some m)) := h.cb.cell 0
  have l0 := h.look hi.1 hi.2
  cases hh : has C i with
  | false =>
    have e0 : namesP C i = [] := by unfold namesP; rw [find_none.2 hh]
    rw [e0]
    simp only [hh] at l0
    have l0' : (Instr.lookup 63 (.map (some m)) (.int .i64 i) false).run Tryz.prog w = .ok (.pointer none) w := l0
    clear h l0 hh hi e0 hW hP
    go_enter Tryz.func30, Tryz.ntmps30
    go_wp2_with fail
    go_ret
    exact ⟨⟨_, rfl, World.ownsRow_nil _ _ _ _, by simp⟩, Keeps.refl _ _⟩
  | true =>
    obtain ⟨x, hx⟩ := has_find hh
    obtain ⟨hxC, hxi⟩ := find_mem hx
    obtain ⟨o, hlab⟩ := h.at_ hx
    simp only [hh, if_true] at l0
    have l0' : (Instr.lookup 63 (.map (some m)) (.int .i64 i) false).run Tryz.prog w = .ok (.pointer (some ⟨(Mo i).b, 0, none⟩)) w := l0
    have e0 : namesP C i = x.lg.map (·.1) := by unfold namesP; rw [hx]
    rw [e0]
    have f3 : w.cell? ⟨(Mo i).b, 3, none⟩ = some (.map (some (Mo i).ml)) := o.b.cell 3
    have HLM := Lib.hid o.l
    have hasc := (hW.ok x hxC).lg
    have hln : x.lg.length ≤ 1000000 := hP.leK hasc (hW.ok x hxC).lp
    have HASC := Lib.hid hasc
    have HKP : Hid (∀ e ∈ x.lg, kS.ok e.1) := Lib.hid (fun e he => hP.k _ ((hW.ok x hxC).lp e he))
    generalize hwr : x.lg = W0 at HLM hasc HASC HKP hln ⊢
    generalize hMb : (Mo i).b = xb at l0' f3
    generalize hMw : (Mo i).ml = mw at f3 HLM
    clear h l0 hh hi e0 o hlab hx hxi hxC hasc hwr hMb hMw hW hP
    have KA : Hid (Keeps [] w (w.alloc (.cells #[.map (some mw)] 74))) := Lib.hid ((Keeps.refl [] w).alloc _)
    have BA := Lib.hid (Blk.new w 74 #[.map (some mw)])
    have GA := Lib.hid (HLM.out.keep KA.out (by simp))
    go_enter Tryz.func30, Tryz.ntmps30
    go_wp2_with fail
    refine (keysS_any (some mw) w).mono ?_
    rintro e w1 ⟨rfl, rfl⟩
    go_wp2_with fail
    refine (sortedGS _ mw _ _ _ GA.out (by omega) BA.out).mono ?_
    rintro e w2 ⟨v, ss, rfl, s1, s2, -, s4, s5, s6⟩
    have e1 : ss = W0.map (·.1) := by
      refine asc_ext s1 HASC.out (fun y => ?_)
      rw [s2, ← mget_some]
      constructor
      · exact fun h => h.2
      · intro h
        obtain ⟨e, he, rfl⟩ := List.mem_map.1 (mget_some.1 h)
        exact ⟨HKP.out e he, h⟩
    subst e1
    have H4 := Lib.hid s4
    have H5 := Lib.hid (KA.out.trans s5 (by simp))
    have H6 : Hid (∀ g ∈ fp v, w.heap.size ≤ g) := Lib.hid (fun g hg => Nat.le_trans KA.out.size (s6 g hg))
    clear s1 s2 s4 s5 s6
    go_wp2_with fail
    go_ret
    exact ⟨⟨_, rfl, H4.out, H6.out⟩, H5.out⟩
end
end Go.Proofs.YtbllmpcpfmlemaaGreat
namespace Go.Proofs.YtbllmpcpfmlemaaGreat
open Go.RowKit
def kindR : Rd → Int
  | .cell _ _ => 0
  | .keys _ _ => 1
def keyR : Rd → Str
  | .cell k _ => k
  | .keys p _ => p
def valR : Rd → Str
  | .cell _ v => v
  | .keys _ _ => []
def lstR : Rd → List Str
  | .cell _ _ => []
  | .keys _ l => l
/-- The reads l lie at v. -/
def RdAt (w : World) (v : Value) (l : List Rd) : Prop :=
  ∃ xs : List Value, w.ownsRow 0 34 4 v l.length xs ∧ ∀ k (h : k < l.length), xs[k * 4]? = some (.int .i64 (kindR l[k])) ∧ xs[k * 4 + 1]? = some (sv (keyR l[k])) ∧ xs[k * 4 + 2]? = some (sv (valR l[k])) ∧ ∃ u, xs[k * 4 + 3]? = some u ∧ w.ownsRow 0 9 1 u (lstR l[k]).length (vs (lstR l[k]))
theorem RdAt.keep0 {w w' : World} {v : Value} {l : List Rd} (h : RdAt w v l) (hk : Keeps [] w w') : RdAt w' v l := by
  obtain ⟨xs, h1, h2⟩ := h
  refine ⟨xs, own_keep h1 hk (by simp), fun k hl => ?_⟩
  obtain ⟨a, b, c, u, d, e⟩ := h2 k hl
  exact ⟨a, b, c, u, d, own_keep e hk (by simp)⟩
theorem OneAt.rds {w : World} {M : Mem} {pp : Option Nat} {nk : Nat} {x : One} (o : OneAt w M pp nk x) {W : World} (hk : Keeps [] w W) {v : Value} (hv : W.ownsRow 0 34 4 v x.rd.length (rw (rdC M.sl) x.rd)) : RdAt W v x.rd := by
  refine ⟨_, hv, fun k hl => ?_⟩
  have hc : ∀ j, j < 4 → (rw (rdC M.sl) x.rd)[k * 4 + j]? = (rdC M.sl x.rd[k])[j]? := fun j hj => rw_at (rdC_len M.sl) hl hj
  have h0 := hc 0 (by omega)
  have h1 := hc 1 (by omega)
  have h2 := hc 2 (by omega)
  have h3 := hc 3 (by omega)
  rw [Nat.add_zero] at h0
  rw [h0, h1, h2, h3]
  have hm := List.getElem_mem hl
  generalize x.rd[k] = r at hm
  cases r with
  | cell a b => exact ⟨rfl, rfl, rfl, _, rfl, World.ownsRow_nil _ _ _ _⟩
  | keys p l => exact ⟨rfl, rfl, rfl, _, rfl, own_keep (o.s p l hm) hk (by simp)⟩
theorem RdAt.set {w w' : World} {g n d : Nat} {l : List Rd} {xs : List Value} (hn : n = l.length) (ho : w.ownsRow 0 34 4 (.slice (some ⟨g, 0, none⟩) n d) n xs) (h : ∀ k (h : k < l.length), xs[k * 4]? = some (.int .i64 (kindR l[k])) ∧ xs[k * 4 + 1]? = some (sv (keyR l[k])) ∧ xs[k * 4 + 2]? = some (sv (valR l[k])) ∧ ∃ u, xs[k * 4 + 3]? = some u ∧ w.ownsRow 0 9 1 u (lstR l[k]).length (vs (lstR l[k])))
    {k : Nat} (hk : k < l.length) {u : Value} (hu : w.ownsRow 0 9 1 u (lstR l[k]).length (vs (lstR l[k]))) (hw : w' = w.setCell ⟨g, k * 4 + 3, none⟩ u) : RdAt w' (.slice (some ⟨g, 0, none⟩) n d) l := by
  subst hw
  have hko : ∀ {m : Nat} {v : Value} {ys : List Value}, w.ownsRow 0 9 1 v m ys → (w.setCell ⟨g, k * 4 + 3, none⟩ u).ownsRow 0 9 1 v m ys := fun hv => own_far hv (fun hg => off_ty hv ho (by decide) g hg (by simp [fp, Value.ownBlock])) u
  refine ⟨_, by rw [← hn]; exact own_set ho (k * 4 + 3) u, fun j hj => ?_⟩
  obtain ⟨a, b, c, v, e, f⟩ := h j hj
  have hx : k * 4 + 3 < xs.length := by
    obtain ⟨_, _, _, v', e', _⟩ := h k hk
    exact (List.getElem?_eq_some_iff.1 e').1
  refine ⟨by rw [List.getElem?_set_ne (by omega)]; exact a, by rw [List.getElem?_set_ne (by omega)]; exact b, by rw [List.getElem?_set_ne (by omega)]; exact c, ?_⟩
  by_cases hjk : j = k
  · subst hjk
    exact ⟨u, List.getElem?_set_self hx, hko hu⟩
  · exact ⟨v, by rw [List.getElem?_set_ne (by omega)]; exact e, hko f⟩
end Go.Proofs.YtbllmpcpfmlemaaGreat
namespace Go.Proofs.YtbllmpcpfmlemaaGreat
open Go.RowKit
def rdsP (C : St) (i : Int) : List Rd := match find C i with
  | none => []
  | some x => x.rd
theorem RdAt.nil (w : World) : RdAt w (.slice none 0 0) [] := ⟨[], World.ownsRow_nil _ _ _ _, fun k h => absurd h (by simp)⟩
section
variable {w : World} {c : Nat} {F G : List Nat} {C : St} {P : List Str}
set_option maxRecDepth 100000 in
set_option maxHeartbeats 3200000 in
theorem reads_any (h : Cs w c F G C) (hW : WF P C) (hP : PoolOk P) {i : Int} (hi : I64 i) :
    Calls Tryz.prog 28 #[.pointer (some ⟨c, 0, none⟩), .int .i64 i] w fun e w' => (∃ A cc, e = .returned (.slice A (rdsP C i).length cc) ∧ RdAt w' (.slice A (rdsP C i).length cc) (rdsP C i)) ∧ Keeps [] w w' := by
  obtain ⟨m, Mo, L, h⟩ := h
  have f0 : w.cell? ⟨c, 0, none⟩ = some (.map (some m)) := h.cb.cell 0
  have l0 := h.look hi.1 hi.2
  cases hh : has C i with
  | false =>
    have e0 : rdsP C i = [] := by unfold rdsP; rw [find_none.2 hh]
    rw [e0]
    simp only [hh] at l0
    have l0' : (Instr.lookup 63 (.map (some m)) (.int .i64 i) false).run Tryz.prog w = .ok (.pointer none) w := l0
    clear h l0 hh hi e0 hW hP
    go_enter Tryz.func28, Tryz.ntmps28
    go_wp2_with fail
    go_ret
    exact ⟨⟨_, _, rfl, RdAt.nil _⟩, Keeps.refl _ _⟩
  | true =>
    obtain ⟨x, hx⟩ := has_find hh
    obtain ⟨hxC, hxi⟩ := find_mem hx
    obtain ⟨o, hlab⟩ := h.at_ hx
    simp only [hh, if_true] at l0
    have l0' : (Instr.lookup 63 (.map (some m)) (.int .i64 i) false).run Tryz.prog w = .ok (.pointer (some ⟨(Mo i).b, 0, none⟩)) w := l0
    have e0 : rdsP C i = x.rd := by unfold rdsP; rw [hx]
    rw [e0]
    have hrd := rd_le hW hP hxC
    have hok := hW.ok x hxC
    have HLS : Hid (∀ r ∈ x.rd, (lstR r).length ≤ 1000000) := Lib.hid (fun r hr => by
      cases r with
      | cell a b => simp [lstR]
      | keys p l => exact hP.le (hok.ls p l hr).1 (fun s hs => ((hok.ls p l hr).2 s hs).1))
    have f4 : w.cell? ⟨(Mo i).b, 4, none⟩ = some (Mo i).row := o.b.cell 4
    obtain ⟨A, cc, hrow, -, -, -⟩ := own_shape o.o
    have oo := o.o
    rw [hrow] at f4 oo
    have h1 : ∀ u ∈ rw (rdC (Mo i).sl) x.rd, u.oneCell' = true := rw_one (rdC_one _) _
    have HC := Lib.hid (cloneR_any w A x.rd.length cc _ oo h1 (by omega))
    have HRD : Hid (∀ W v, Keeps [] w W → W.ownsRow 0 34 4 v x.rd.length (rw (rdC (Mo i).sl) x.rd) → RdAt W v x.rd) := Lib.hid (fun W v hk hv => o.rds hk hv)
    generalize (Mo i).b = xb at l0' f4
    generalize x.rd = R at *
    clear h l0 hh hi e0 hlab hx hxi hW hP o oo h1 hok
    go_enter Tryz.func28, Tryz.ntmps28
    go_wp2_with fail
    refine HC.out.mono ?_
    rintro e w1 ⟨v, rfl, o1, k1, f1⟩
    obtain ⟨B, d, rfl, -, -, -⟩ := own_shape o1
    have H1 := Lib.hid (HRD.out _ _ k1 o1)
    have K1 := Lib.hid k1
    have F1 := Lib.hid f1
    clear o1 k1 f1 HC HRD
    go_wp2_with fail
    go_loopw [7, 23] (fun _ iv wr => ∃ k : Nat, k ≤ R.length ∧ iv = .int .i64 k ∧ RdAt wr (.slice B R.length d) R ∧ Keeps [] w wr) (fun _ iv _ => R.length - (intOf iv).toNat)
    case atStart => exact ⟨0, by omega, rfl, H1.out, K1.out⟩
    case round =>
      obtain ⟨k, hk, rfl, hr, hkr⟩ := hrel
      clear H1 K1
      have KR := Lib.hid hkr
      clear hkr
      by_cases hlt : k < R.length
      · obtain ⟨xs, ho, hc⟩ := hr
        obtain ⟨_, _, _, u, hu, hou⟩ := hc k hlt
        obtain ⟨A', d', hv, -, -, hA⟩ := own_shape ho
        obtain ⟨g, hg⟩ := hA (by omega)
        obtain ⟨rfl, -, rfl⟩ : B = A' ∧ R.length = R.length ∧ d = d' := by injection hv with h1 h2 h3; exact ⟨h1, rfl, h3⟩
        subst hg
        obtain ⟨Bu, du, rfl, -, -, -⟩ := own_shape hou
        have c3 : wr.cell? ⟨g, k * 4 + 3, none⟩ = some (.slice Bu (lstR R[k]).length du) := own_cell ho hu
        have HCL := Lib.hid (cloneS_any wr Bu (lstR R[k]) du (AtS.of_own hou (HLS.out _ (List.getElem_mem hlt))))
        have HO := Lib.hid ho
        have HC := Lib.hid hc
        have i0 : (0 : Int) ≤ (k : Int) := by omega
        have i1 : (k : Int) < (R.length : Int) := by omega
        clear hv hA ho hc hou hu
        go_wp2_with fail
        refine HCL.out.mono ?_
        rintro e w2 ⟨v2, rfl, o2, k2, -⟩
        obtain ⟨B2, d2, rfl, -, -, -⟩ := own_shape o2
        have O2 := Lib.hid o2
        have HO2 := Lib.hid (own_keep HO.out k2 (by simp))
        have c3' : w2.cell? ⟨g, k * 4 + 3, none⟩ = some (.slice Bu (lstR R[k]).length du) := (k2.cell (p := ⟨g, k * 4 + 3, none⟩) (cell_lt c3) (by simp)).trans c3
        have hz := own_free HO2.out (k * 4 + 3)
        have K2 := Lib.hid (KR.out.trans k2 (by simp))
        have HC2 := Lib.hid (fun j (h : j < R.length) => (⟨(HC.out j h).1, (HC.out j h).2.1, (HC.out j h).2.2.1, (HC.out j h).2.2.2.choose, (HC.out j h).2.2.2.choose_spec.1, own_keep (HC.out j h).2.2.2.choose_spec.2 k2 (by simp)⟩ : xs[j * 4]? = some (.int .i64 (kindR R[j])) ∧ xs[j * 4 + 1]? = some (sv (keyR R[j])) ∧ xs[j * 4 + 2]? = some (sv (valR R[j])) ∧ ∃ u, xs[j * 4 + 3]? = some u ∧ w2.ownsRow 0 9 1 u (lstR R[j]).length (vs (lstR R[j]))))
        clear o2 k2 HCL HO HC KR c3
        go_wp2_with fail
        exact ⟨⟨k + 1, by omega, rfl, RdAt.set rfl HO2.out HC2.out hlt O2.out rfl, K2.out.setCell (.inr (F1.out g (by simp [fp, Value.ownBlock]))) _⟩, by simp only [intOf]; omega⟩
      · obtain rfl : k = R.length := by omega
        have i1 : ¬ ((R.length : Int) < (R.length : Int)) := by omega
        have HR := Lib.hid hr
        clear hr
        go_wp2_with fail
        go_ret
        exact ⟨⟨_, _, rfl, HR.out⟩, KR.out⟩
end
end Go.Proofs.YtbllmpcpfmlemaaGreat
