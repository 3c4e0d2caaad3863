/- pieces: the iterator. -/
import Derived.RangeFuncNested
import Derived.RangeFuncBound
import Derived.RangeFuncCalls
import Derived.RangeFuncLeaves
import Derived.Shelf.Abstract
import Derived.Shelf.RegionOpen
import Derived.WalkKit
import Derived.OwnWalkIn
import Derived.TacticsInMore
import Derived.LoopNIn
import Derived.LoopIn
import Derived.Test.YtcoecpglnabbpaaW3
namespace Go.Proofs.Ytcoecpglnabbpaa
open Go.RowKit Go.Shelf
attribute [local go_sem] Oper.semAt_some

/-- What a piece is handed on as. -/
def encs (x : Bs × Bool) : Array Value := #[.string ⟨x.1.toArray⟩, .bool x.2]
/-- The captured page stands. -/
def Kp (Bn : Nat) (A B : World) : Prop := B.heap[Bn]? = A.heap[Bn]?
theorem cut_str (s : ByteArray) (i n : Nat) : s.extract i (i + n) = ⟨(((bys s).drop i).take n).toArray⟩ := by
  apply ByteArray.ext
  rw [ByteArray.data_extract]
  apply Array.toList_inj.1
  simp [List.take_drop]
theorem grown_drewN (w : World) (n : Nat) : w.grownBy (w.drewN n) none := ⟨rfl, rfl, rfl, Nat.le_refl _, fun _ _ _ => rfl⟩
theorem lit_step {l : Bs} {n : Nat} (hn : n ≤ lit l) (h : n < l.length) : (eqN (l.drop n) < 3 ∧ n + 1 ≤ lit l) ∨ (3 ≤ eqN (l.drop n) ∧ n = lit l) := by
  induction l generalizing n with
  | nil => simp at h
  | cons a r ih =>
    cases n with
    | zero =>
      by_cases h3 : 3 ≤ eqN (a :: r)
      · exact .inr ⟨h3, by unfold lit; rw [if_pos h3]⟩
      · exact .inl ⟨by rw [List.drop_zero]; omega, by unfold lit; rw [if_neg h3]; omega⟩
    | succ n =>
      unfold lit at hn ⊢
      by_cases h3 : 3 ≤ eqN (a :: r)
      · rw [if_pos h3] at hn; omega
      · rw [if_neg h3] at hn ⊢
        simp only [List.length_cons] at h
        rw [List.drop_succ_cons]
        rcases ih (n := n) (by omega) (by omega) with h1 | h1
        · exact .inl ⟨h1.1, by omega⟩
        · exact .inr ⟨h1.1, by omega⟩
/-- A short head of equal bytes lies before the next run. -/
theorem eqN_lit {l : Bs} (h : eqN l < 3) : eqN l ≤ lit l := by
  cases l with
  | nil => simp [eqN]
  | cons a r =>
    unfold lit
    rw [if_neg (by omega)]
    cases r with
    | nil => rw [eqN_cons]; simp
    | cons b t =>
      by_cases hb : b = a
      · subst hb
        have h2 : eqN (b :: b :: t) = 1 + eqN (b :: t) := by rw [eqN_cons, eqN_cons, List.takeWhile_cons]; simp; omega
        have h3 : eqN (b :: t) < 3 := by omega
        unfold lit
        rw [if_neg (by omega)]
        omega
      · rw [eqN_cons, List.takeWhile_cons, if_neg (by simpa using hb)]
        simp

set_option maxHeartbeats 3200000 in
set_option maxRecDepth 100000 in
theorem pieces1 (n : Nat) (hn : 1 ≤ n) (l Bn : Nat) (s : ByteArray) (hs : s.size ≤ 1000) (J Jx : List (Bs × Bool) → World → Prop) (W0 W : World)
    (hJ : AbidesFrom W0.heap.size J)
    (hY : ∀ pre x W, J pre W → pre ++ [x] <+: pieces (bys s) → YieldAt Fence.wide (n - 1) Try.prog l (encs x) W fun e W' =>
      (e = .returned (.bool true) ∧ J (pre ++ [x]) W' ∧ Kp Bn W W') ∨ (e = .returned (.bool false) ∧ Jx (pre ++ [x]) W'))
    (hB : W.heap[Bn]? = some (.cells #[.string s] 9 (0, 0))) (h0 : J [] W) :
    CallsIn Fence.wide n Try.prog 19 #[.func (.yield l) #[] #[], .pointer (some ⟨Bn, 0, none⟩)] W fun e W' => (∃ v, e = .returned v) ∧
      ((∃ xs, xs = pieces (bys s) ∧ J xs W') ∨ (∃ pre, pre <+: pieces (bys s) ∧ Jx pre W')) := by
  refine callsIn_of_wp Try.func19 rfl trivial ?_ rfl
  simp only [Try.ntmps19, List.size_toArray, List.length_cons, List.length_nil, Nat.reduceAdd, Nat.reduceSub, Array.replicate_succ, Array.replicate_zero, List.push_toArray, List.append_toArray, List.nil_append, List.cons_append]
  gi_wp2
  gi_loopw [3] (fun a wr => ∃ (i : Nat) (pre : List (Bs × Bool)), a = .int .i64 i ∧ i ≤ s.size ∧ pieces (bys s) = pre ++ pieces ((bys s).drop i) ∧ J pre wr ∧ wr.heap[Bn]? = some (.cells #[.string s] 9 (0, 0)))
    (fun a _ => s.size - (intOf a).toNat)
  case atStart => exact ⟨0, [], rfl, by omega, by simp, h0, hB⟩
  case round =>
    clear h0 hB
    obtain ⟨i, pre, rfl, hi, hpre, hJs, hBr⟩ := hrel
    have c0 : wr.cell? ⟨Bn, 0, none⟩ = some (.string s) := cell_of_row wr Bn 0 #[.string s] 9 (0, 0) hBr
    by_cases hlt : i < s.size
    rotate_left
    · obtain rfl : i = s.size := by omega
      have hd : (bys s).drop s.size = [] := List.drop_of_length_le (by simp)
      rw [hd, pieces_nil, List.append_nil] at hpre
      have HP := Lib.hid hpre
      clear hpre
      gi_wp2
      go_end0
      exact ⟨⟨_, rfl⟩, .inl ⟨pre, HP.out.symm, hJs⟩⟩
    have HE := Lib.hid (equal_any s i wr hs hlt)
    have HP := Lib.hid hpre
    clear hpre
    have HY := Lib.hid hY
    have HJ := Lib.hid hJ
    clear hY hJ
    have hne : (bys s).drop i ≠ [] := by intro h; have := congrArg List.length h; simp at this; omega
    have hlen : ((bys s).drop i).length = s.size - i := by simp
    have hPC : pieces ((bys s).drop i) = (((bys s).drop i).take (hd ((bys s).drop i)), decide (3 ≤ eqN ((bys s).drop i))) :: pieces (((bys s).drop i).drop (hd ((bys s).drop i))) := by
      cases hc : (bys s).drop i with
      | nil => exact absurd hc hne
      | cons a r => exact pieces_cons a r
    have hle := eqN_le ((bys s).drop i)
    have hpos : 1 ≤ eqN ((bys s).drop i) := by
      cases hc : (bys s).drop i with
      | nil => exact absurd hc hne
      | cons a r => exact eqN_pos
    have hll := lit_le ((bys s).drop i)
    have HPC := Lib.hid hPC
    clear hPC hne
    gi_wp2_with fail
    refine ⟨trivial, ?_⟩
    refine (callsIn_wide.2 HE.out).mono ?_
    rintro e w' ⟨rfl, d, rfl⟩
    have hJ1 : J pre (wr.drewN d) := HJ.out pre wr _ none hJs (grown_drewN _ _) (by simp)
    have hB1 : (wr.drewN d).heap[Bn]? = some (.cells #[.string s] 9 (0, 0)) := hBr
    by_cases h3 : 3 ≤ eqN ((bys s).drop i)
    · have HS : Hid (pieces ((bys s).drop i) = (((bys s).drop i).take (eqN ((bys s).drop i)), true) :: pieces (((bys s).drop i).drop (eqN ((bys s).drop i)))) := Lib.hid (by rw [HPC.out, hd_run h3, decide_eq_true h3])
      have t1 : decide ((eqN ((bys s).drop i) : Int) < 3) = false := by simp; omega
      generalize eqN ((bys s).drop i) = z at *
      have hkl : i + z ≤ s.size := by omega
      obtain ⟨fn, tmps, assign, body, hy, hR⟩ := HY.out pre ((((bys s).drop i).take z), true) (wr.drewN d) hJ1 ⟨pieces (((bys s).drop i).drop z), by rw [HP.out, HS.out]; simp⟩
      have hcut := cut_str s i z
      unfold encs at hy
      dsimp only at hy
      rw [← hcut] at hy
      have c1 : World.cell? (wr.drewN d) ⟨Bn, 0, none⟩ = some (.string s) := cell_of_row _ Bn 0 #[.string s] 9 (0, 0) hB1
      have HB1 := Lib.hid hB1
      clear hcut hB1 hJ1 hJs hBr c0
      gi_wp2
      refine hR.mono ?_
      rintro e W3 (⟨rfl, hJ3, hk3⟩ | ⟨rfl, hJx3⟩)
      · have hB3 : W3.heap[Bn]? = some (.cells #[.string s] 9 (0, 0)) := hk3.trans HB1.out
        clear hk3 hR hy
        gi_wp2
        go_roundw
        case rel => exact ⟨i + z, pre ++ [(((bys s).drop i).take z, true)], by go_num, hkl, by rw [HP.out, HS.out, List.drop_drop]; simp, hJ3, hB3⟩
        case measure => simp [intOf]; omega
      · clear hR hy
        gi_wp2
        refine bodyPost_ret (results_none rfl _ _ _) rfl ?_
        exact ⟨⟨_, rfl⟩, .inr ⟨pre ++ [(((bys s).drop i).take z, true)], ⟨pieces (((bys s).drop i).drop z), by rw [HP.out, HS.out]; simp⟩, hJx3⟩⟩
    · have HS : Hid (pieces ((bys s).drop i) = (((bys s).drop i).take (lit ((bys s).drop i)), false) :: pieces (((bys s).drop i).drop (lit ((bys s).drop i)))) := Lib.hid (by rw [HPC.out, hd_lit h3, decide_eq_false h3])
      have hel := eqN_lit (l := (bys s).drop i) (by omega)
      have t1 : decide ((eqN ((bys s).drop i) : Int) < 3) = true := by simp; omega
      have HLS : Hid (∀ k, k ≤ lit ((bys s).drop i) → i + k < s.size → (eqN ((bys s).drop (i + k)) < 3 ∧ k + 1 ≤ lit ((bys s).drop i)) ∨ (3 ≤ eqN ((bys s).drop (i + k)) ∧ k = lit ((bys s).drop i))) := Lib.hid (fun k h1 h2 => by
        have := lit_step (l := (bys s).drop i) (n := k) h1 (by omega)
        rwa [List.drop_drop] at this)
      have hml : i + lit ((bys s).drop i) ≤ s.size := by omega
      clear hle hlen HPC hll
      generalize lit ((bys s).drop i) = m at *
      generalize eqN ((bys s).drop i) = z at *
      gi_wp2
      clear hJs hBr c0 HE
      generalize wr.drewN d = wl at *
      gi_loopw [4] (fun a wz => ∃ k : Nat, a = .int .i64 k ∧ 1 ≤ k ∧ k ≤ m ∧ J pre wz ∧ wz.heap[Bn]? = some (.cells #[.string s] 9 (0, 0))) (fun a _ => s.size - (intOf a).toNat)
      case atStart => exact ⟨z, rfl, hpos, hel, hJ1, hB1⟩
      case round =>
        clear hJ1 hB1 hpos hel t1 h3
        obtain ⟨k, rfl, hk1, hk2, hJ1, hB1⟩ := hrel
        have c1 : wr.cell? ⟨Bn, 0, none⟩ = some (.string s) := cell_of_row wr Bn 0 #[.string s] 9 (0, 0) hB1
        by_cases hkn : i + k < s.size
        · have HE := Lib.hid (equal_any s (i + k) wr hs hkn)
          have hst := HLS.out k hk2 hkn
          have hcast : ((i + k : Nat) : Int) = (i : Int) + k := by omega
          rw [hcast] at HE
          clear hcast HLS
          have hki : i + k ≤ 1000 := by omega
          have tki : decide ((i : Int) + k < s.size) = true := by simp; omega
          generalize eqN ((bys s).drop (i + k)) = q at *
          rcases hst with ⟨hq, hq2⟩ | ⟨hq, hq2⟩
          · have t2 : decide ((q : Int) < 3) = true := by simp; omega
            gi_wp2_with fail
            refine ⟨trivial, ?_⟩
            refine (callsIn_wide.2 HE.out).mono ?_
            rintro e w' ⟨rfl, d, rfl⟩
            have hJ2 : J pre (wr.drewN d) := HJ.out pre wr _ none hJ1 (grown_drewN _ _) (by simp)
            have hB2 : (wr.drewN d).heap[Bn]? = some (.cells #[.string s] 9 (0, 0)) := hB1
            clear hJ1 hB1
            gi_wp2
            go_roundw
            case rel => exact ⟨k + 1, by go_num, by omega, hq2, hJ2, hB2⟩
            case measure => simp [intOf]; omega
          · have t2 : decide ((q : Int) < 3) = false := by simp; omega
            obtain rfl : m = k := hq2.symm
            gi_wp2_with fail
            refine ⟨trivial, ?_⟩
            refine (callsIn_wide.2 HE.out).mono ?_
            rintro e w' ⟨rfl, d, rfl⟩
            have hJ2 : J pre (wr.drewN d) := HJ.out pre wr _ none hJ1 (grown_drewN _ _) (by simp)
            have hB2 : (wr.drewN d).heap[Bn]? = some (.cells #[.string s] 9 (0, 0)) := hB1
            clear hJ1 hB1 HE c1
            have hJ1 := hJ2
            have hB1 := hB2
            clear hJ2 hB2
            clear hk2 hml
            have HK := Lib.hid hkn
            clear hkn
            have hkl : i + m ≤ s.size := Nat.le_of_lt HK.out
            obtain ⟨fn, tmps, assign, body, hy, hR⟩ := HY.out pre ((((bys s).drop i).take m), false) (wr.drewN d) hJ1 ⟨pieces (((bys s).drop i).drop m), by rw [HP.out, HS.out]; simp⟩
            have hcut := cut_str s i m
            unfold encs at hy
            dsimp only at hy
            rw [← hcut] at hy
            have c1 : World.cell? (wr.drewN d) ⟨Bn, 0, none⟩ = some (.string s) := cell_of_row _ Bn 0 #[.string s] 9 (0, 0) hB1
            have HB1 := Lib.hid hB1
            clear hcut hB1 hJ1
            gi_wp2
            refine hR.mono ?_
            rintro e W3 (⟨rfl, hJ3, hk3⟩ | ⟨rfl, hJx3⟩)
            · have hB3 : W3.heap[Bn]? = some (.cells #[.string s] 9 (0, 0)) := hk3.trans HB1.out
              clear hk3 hR hy
              gi_wp2
              go_roundw
              case rel => exact ⟨i + m, pre ++ [(((bys s).drop i).take m, false)], by go_num, hkl, by rw [HP.out, HS.out, List.drop_drop]; simp, hJ3, hB3⟩
              case measure => simp [intOf]; omega
            · clear hR hy
              gi_wp2
              refine bodyPost_ret (results_none rfl _ _ _) rfl ?_
              exact ⟨⟨_, rfl⟩, .inr ⟨pre ++ [(((bys s).drop i).take m, false)], ⟨pieces (((bys s).drop i).drop m), by rw [HP.out, HS.out]; simp⟩, hJx3⟩⟩
        · obtain rfl : m = k := by omega
          have hki : i + m ≤ s.size := by omega
          clear hk2 hml c1 HLS
          have t4 : decide ((i : Int) + m < s.size) = false := by simp; omega
          have hkl : i + m ≤ s.size := hki
          obtain ⟨fn, tmps, assign, body, hy, hR⟩ := HY.out pre ((((bys s).drop i).take m), false) wr hJ1 ⟨pieces (((bys s).drop i).drop m), by rw [HP.out, HS.out]; simp⟩
          have hcut := cut_str s i m
          unfold encs at hy
          dsimp only at hy
          rw [← hcut] at hy
          have c1 : World.cell? wr ⟨Bn, 0, none⟩ = some (.string s) := cell_of_row _ Bn 0 #[.string s] 9 (0, 0) hB1
          have HB1 := Lib.hid hB1
          clear hcut hB1 hJ1
          gi_wp2
          refine ⟨trivial, ?_⟩
          gi_wp2
          refine hR.mono ?_
          rintro e W3 (⟨rfl, hJ3, hk3⟩ | ⟨rfl, hJx3⟩)
          · have hB3 : W3.heap[Bn]? = some (.cells #[.string s] 9 (0, 0)) := hk3.trans HB1.out
            clear hk3 hR hy
            gi_wp2
            go_roundw
            case rel => exact ⟨i + m, pre ++ [(((bys s).drop i).take m, false)], by go_num, hkl, by rw [HP.out, HS.out, List.drop_drop]; simp, hJ3, hB3⟩
            case measure => simp [intOf]; omega
          · clear hR hy
            gi_wp2
            refine bodyPost_ret (results_none rfl _ _ _) rfl ?_
            exact ⟨⟨_, rfl⟩, .inr ⟨pre ++ [(((bys s).drop i).take m, false)], ⟨pieces (((bys s).drop i).drop m), by rw [HP.out, HS.out]; simp⟩, hJx3⟩⟩
end Go.Proofs.Ytcoecpglnabbpaa
