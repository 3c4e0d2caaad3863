/- SameReads (printed by z5gen.py). -/
import Derived.Test.YtbllmpcpfmlemaaGreatZ4
namespace Go.Proofs.YtbllmpcpfmlemaaGreat
open Go.RowKit

theorem same_eq {W : World} {v v' : Value} {q : List Str} (h : W.ownsRow 0 9 1 v q.length (vs q)) (h' : W.ownsRow 0 9 1 v' q.length (vs q)) (hl : q.length ≤ 1000000) :
    Calls Tryz.prog 13 #[v, v'] W fun e w' => e = .returned (.bool true) ∧ Keeps [] W w' := by
  obtain ⟨B, d, rfl, -, -, -⟩ := own_shape h
  obtain ⟨B', d', rfl, -, -, -⟩ := own_shape h'
  have h1 := same_any W B B' q q d d' (AtS.of_own h hl) (AtS.of_own h' hl)
  rw [decide_eq_true (rfl : q = q)] at h1
  exact h1
set_option maxRecDepth 100000 in
set_option maxHeartbeats 3200000 in
theorem sameReads_eq (w : World) (A B : Option Addr) (l : List Rd) (c d : Nat) (ha : RdAt w (.slice A l.length c) l) (hb : RdAt w (.slice B l.length d) l) (hl : ∀ r ∈ l, (lstR r).length ≤ 1000000) (hm : l.length ≤ 2000000) :
    Calls Tryz.prog 27 #[.slice A l.length c, .slice B l.length d] w fun e w' => e = .returned (.bool true) ∧ Keeps [] w w' := by
  have HA := Lib.hid ha
  have HB := Lib.hid hb
  have HL := Lib.hid hl
  clear ha hb hl
  go_enter Tryz.func27, Tryz.ntmps27
  go_wp2_with fail
  go_loopw [5] (fun iv wr => ∃ k : Nat, k ≤ l.length ∧ iv = .int .i64 k ∧ Keeps [] w wr) (fun iv _ => l.length - (intOf iv).toNat)
  case atStart => exact ⟨0, by omega, rfl, Keeps.refl _ _⟩
  case round =>
    obtain ⟨k, hk, rfl, hkr⟩ := hrel
    have KR := Lib.hid hkr
    clear hkr
    by_cases hlt : k < l.length
    · obtain ⟨xs, ho, hc⟩ := HA.out.keep0 KR.out
      obtain ⟨ys, ho2, hc2⟩ := HB.out.keep0 KR.out
      obtain ⟨p0, p1, p2, ra, p3, oa⟩ := hc k hlt
      obtain ⟨q0, q1, q2, rb, q3, ob⟩ := hc2 k hlt
      obtain ⟨A', c', hv, -, -, hA⟩ := own_shape ho
      obtain ⟨g1, hg1⟩ := hA (by omega)
      obtain ⟨rfl, -, rfl⟩ : A = A' ∧ l.length = l.length ∧ c = c' := by injection hv with h1 h2 h3; exact ⟨h1, rfl, h3⟩
      subst hg1
      obtain ⟨B', d', hv2, -, -, hB⟩ := own_shape ho2
      obtain ⟨g2, hg2⟩ := hB (by omega)
      obtain ⟨rfl, -, rfl⟩ : B = B' ∧ l.length = l.length ∧ d = d' := by injection hv2 with h1 h2 h3; exact ⟨h1, rfl, h3⟩
      subst hg2
      have i0 : (0 : Int) ≤ (k : Int) := by omega
      have i1 : (k : Int) < (l.length : Int) := by omega
      have hlk := HL.out _ (List.getElem_mem hlt)
      have HS : Hid (∀ W, Keeps [] wr W → W.cell? ⟨g1, 0 + k * 4, none⟩ = some (.int .i64 (kindR l[k])) ∧ W.cell? ⟨g1, 0 + k * 4 + 1, none⟩ = some (sv (keyR l[k])) ∧ W.cell? ⟨g1, 0 + k * 4 + 2, none⟩ = some (sv (valR l[k])) ∧ W.cell? ⟨g1, 0 + k * 4 + 3, none⟩ = some ra ∧ W.cell? ⟨g2, 0 + k * 4, none⟩ = some (.int .i64 (kindR l[k])) ∧ W.cell? ⟨g2, 0 + k * 4 + 1, none⟩ = some (sv (keyR l[k])) ∧ W.cell? ⟨g2, 0 + k * 4 + 2, none⟩ = some (sv (valR l[k])) ∧ W.cell? ⟨g2, 0 + k * 4 + 3, none⟩ = some rb) := Lib.hid (fun W hk => by
        have x1 := own_keep ho hk (by simp)
        have x2 := own_keep ho2 hk (by simp)
        simp only [Nat.zero_add]
        exact ⟨own_cell x1 p0, own_cell x1 p1, own_cell x1 p2, own_cell x1 p3, own_cell x2 q0, own_cell x2 q1, own_cell x2 q2, own_cell x2 q3⟩)
      have HC : Hid (∀ W, Keeps [] wr W → Calls Tryz.prog 13 #[ra, rb] W fun e w' => e = .returned (.bool true) ∧ Keeps [] W w') := Lib.hid (fun W hk => same_eq (own_keep oa hk (by simp)) (own_keep ob hk (by simp)) hlk)
      clear hv hv2 hA hB ho ho2 hc hc2 p0 p1 p2 p3 q0 q1 q2 q3 oa ob hlk
      go_upto_region 6 with fail
      refine sameR6_any wr g1 0 g2 0 l.length c d k _ _ _ ra rb _ HS.out HC.out i0 i1 _ _ _ _ _ _ _ _ _ _ _ _ _ _ _ _ _ _ _ _ _ _ _ _ _ _ _ _ _ _ _ _ _ _ _ _ _ _ _ _ _ _ _ _ _ _ _ _ _ _ _ _ _ _ _ _ _ _ _ _ _ _ _ _ _ ?_
      intro v17 v18 v19 v20 v21 v22 v23 v24 v25 v26 v27 v28 v29 v30 v31 v32 v33 v34 v35 v36 v37 v38 v39 v40 v41 v42 v43 v44 v45 v46 v47 v48 v49 v50 v51 v52 v53 v54 v55 v56 v57 v58 v59 v60 v61 v62 v63 v64 v65 v66 W hk
      have KN := Lib.hid (KR.out.trans hk (by simp))
      clear hk HS HC
      go_wp2_with fail
      exact ⟨⟨k + 1, by omega, rfl, KN.out⟩, by simp only [intOf]; omega⟩
    · obtain rfl : k = l.length := by omega
      have i1 : ¬ ((l.length : Int) < (l.length : Int)) := by omega
      go_wp2_with fail
      go_ret
      exact ⟨rfl, KR.out⟩
end Go.Proofs.YtbllmpcpfmlemaaGreat
