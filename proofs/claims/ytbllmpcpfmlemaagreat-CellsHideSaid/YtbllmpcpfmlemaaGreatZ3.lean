/- Reads, walked. -/
import Derived.Test.YtbllmpcpfmlemaaGreatZ2
namespace Go.Proofs.YtbllmpcpfmlemaaGreat
open Go.RowKit

def rdsP (C : St) (i : Int) : List Rd := match find C i with
  | none => []
  | some x => x.rd
theorem RdAt.nil (w : World) : RdAt w (.slice none 0 0) [] := ⟨[], World.ownsRow_nil _ _ _ _, fun k h => absurd h (by simp)⟩
section
variable {w : World} {c : Nat} {F G : List Nat} {C : St} {P : List Str}
set_option maxRecDepth 100000 in
set_option maxHeartbeats 3200000 in
theorem reads_any (h : Cs w c F G C) (hW : WF P C) (hP : PoolOk P) {i : Int} (hi : I64 i) :
    Calls Tryz.prog 28 #[.pointer (some ⟨c, 0, none⟩), .int .i64 i] w fun e w' => (∃ A cc, e = .returned (.slice A (rdsP C i).length cc) ∧ RdAt w' (.slice A (rdsP C i).length cc) (rdsP C i)) ∧ Keeps [] w w' := by
  obtain ⟨m, Mo, L, h⟩ := h
  have f0 : w.cell? ⟨c, 0, none⟩ = some (.map (some m)) := h.cb.cell 0
  have l0 := h.look hi.1 hi.2
  cases hh : has C i with
  | false =>
    have e0 : rdsP C i = [] := by unfold rdsP; rw [find_none.2 hh]
    rw [e0]
    simp only [hh] at l0
    have l0' : (Instr.lookup 63 (.map (some m)) (.int .i64 i) false).run Tryz.prog w = .ok (.pointer none) w := l0
    clear h l0 hh hi e0 hW hP
    go_enter Tryz.func28, Tryz.ntmps28
    go_wp2_with fail
    go_ret
    exact ⟨⟨_, _, rfl, RdAt.nil _⟩, Keeps.refl _ _⟩
  | true =>
    obtain ⟨x, hx⟩ := has_find hh
    obtain ⟨hxC, hxi⟩ := find_mem hx
    obtain ⟨o, hlab⟩ := h.at_ hx
    simp only [hh, if_true] at l0
    have l0' : (Instr.lookup 63 (.map (some m)) (.int .i64 i) false).run Tryz.prog w = .ok (.pointer (some ⟨(Mo i).b, 0, none⟩)) w := l0
    have e0 : rdsP C i = x.rd := by unfold rdsP; rw [hx]
    rw [e0]
    have hrd := rd_le hW hP hxC
    have hok := hW.ok x hxC
    have HLS : Hid (∀ r ∈ x.rd, (lstR r).length ≤ 1000000) := Lib.hid (fun r hr => by
      cases r with
      | cell a b => simp [lstR]
      | keys p l => exact hP.le (hok.ls p l hr).1 (fun s hs => ((hok.ls p l hr).2 s hs).1))
    have f4 : w.cell? ⟨(Mo i).b, 4, none⟩ = some (Mo i).row := o.b.cell 4
    obtain ⟨A, cc, hrow, -, -, -⟩ := own_shape o.o
    have oo := o.o
    rw [hrow] at f4 oo
    have h1 : ∀ u ∈ rw (rdC (Mo i).sl) x.rd, u.oneCell' = true := rw_one (rdC_one _) _
    have HC := Lib.hid (cloneR_any w A x.rd.length cc _ oo h1 (by omega))
    have HRD : Hid (∀ W v, Keeps [] w W → W.ownsRow 0 34 4 v x.rd.length (rw (rdC (Mo i).sl) x.rd) → RdAt W v x.rd) := Lib.hid (fun W v hk hv => o.rds hk hv)
    generalize (Mo i).b = xb at l0' f4
    generalize x.rd = R at *
    clear h l0 hh hi e0 hlab hx hxi hW hP o oo h1 hok
    go_enter Tryz.func28, Tryz.ntmps28
    go_wp2_with fail
    refine HC.out.mono ?_
    rintro e w1 ⟨v, rfl, o1, k1, f1⟩
    obtain ⟨B, d, rfl, -, -, -⟩ := own_shape o1
    have H1 := Lib.hid (HRD.out _ _ k1 o1)
    have K1 := Lib.hid k1
    have F1 := Lib.hid f1
    clear o1 k1 f1 HC HRD
    go_wp2_with fail
    go_loopw [7, 23] (fun _ iv wr => ∃ k : Nat, k ≤ R.length ∧ iv = .int .i64 k ∧ RdAt wr (.slice B R.length d) R ∧ Keeps [] w wr) (fun _ iv _ => R.length - (intOf iv).toNat)
    case atStart => exact ⟨0, by omega, rfl, H1.out, K1.out⟩
    case round =>
      obtain ⟨k, hk, rfl, hr, hkr⟩ := hrel
      clear H1 K1
      have KR := Lib.hid hkr
      clear hkr
      by_cases hlt : k < R.length
      · obtain ⟨xs, ho, hc⟩ := hr
        obtain ⟨_, _, _, u, hu, hou⟩ := hc k hlt
        obtain ⟨A', d', hv, -, -, hA⟩ := own_shape ho
        obtain ⟨g, hg⟩ := hA (by omega)
        obtain ⟨rfl, -, rfl⟩ : B = A' ∧ R.length = R.length ∧ d = d' := by injection hv with h1 h2 h3; exact ⟨h1, rfl, h3⟩
        subst hg
        obtain ⟨Bu, du, rfl, -, -, -⟩ := own_shape hou
        have c3 : wr.cell? ⟨g, k * 4 + 3, none⟩ = some (.slice Bu (lstR R[k]).length du) := own_cell ho hu
        have HCL := Lib.hid (cloneS_any wr Bu (lstR R[k]) du (AtS.of_own hou (HLS.out _ (List.getElem_mem hlt))))
        have HO := Lib.hid ho
        have HC := Lib.hid hc
        have i0 : (0 : Int) ≤ (k : Int) := by omega
        have i1 : (k : Int) < (R.length : Int) := by omega
        clear hv hA ho hc hou hu
        go_wp2_with fail
        refine HCL.out.mono ?_
        rintro e w2 ⟨v2, rfl, o2, k2, -⟩
        obtain ⟨B2, d2, rfl, -, -, -⟩ := own_shape o2
        have O2 := Lib.hid o2
        have HO2 := Lib.hid (own_keep HO.out k2 (by simp))
        have c3' : w2.cell? ⟨g, k * 4 + 3, none⟩ = some (.slice Bu (lstR R[k]).length du) := (k2.cell (p := ⟨g, k * 4 + 3, none⟩) (cell_lt c3) (by simp)).trans c3
        have hz := own_free HO2.out (k * 4 + 3)
        have K2 := Lib.hid (KR.out.trans k2 (by simp))
        have HC2 := Lib.hid (fun j (h : j < R.length) => (⟨(HC.out j h).1, (HC.out j h).2.1, (HC.out j h).2.2.1, (HC.out j h).2.2.2.choose, (HC.out j h).2.2.2.choose_spec.1, own_keep (HC.out j h).2.2.2.choose_spec.2 k2 (by simp)⟩ : xs[j * 4]? = some (.int .i64 (kindR R[j])) ∧ xs[j * 4 + 1]? = some (sv (keyR R[j])) ∧ xs[j * 4 + 2]? = some (sv (valR R[j])) ∧ ∃ u, xs[j * 4 + 3]? = some u ∧ w2.ownsRow 0 9 1 u (lstR R[j]).length (vs (lstR R[j]))))
        clear o2 k2 HCL HO HC KR c3
        go_wp2_with fail
        exact ⟨⟨k + 1, by omega, rfl, RdAt.set rfl HO2.out HC2.out hlt O2.out rfl, K2.out.setCell (.inr (F1.out g (by simp [fp, Value.ownBlock]))) _⟩, by simp only [intOf]; omega⟩
      · obtain rfl : k = R.length := by omega
        have i1 : ¬ ((R.length : Int) < (R.length : Int)) := by omega
        have HR := Lib.hid hr
        clear hr
        go_wp2_with fail
        go_ret
        exact ⟨⟨_, _, rfl, HR.out⟩, KR.out⟩
end
end Go.Proofs.YtbllmpcpfmlemaaGreat
