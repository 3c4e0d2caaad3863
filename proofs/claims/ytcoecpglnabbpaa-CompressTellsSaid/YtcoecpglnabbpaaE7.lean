/- The reference: Unpack. -/
import Derived.Test.YtcoecpglnabbpaaE6
namespace Go.Proofs.Ytcoecpglnabbpaa
open Go.RowKit

theorem rdec_end (out : Bs) : rdec out [] = out := by rw [rdec]
theorem rdec_big {out : Bs} (h : 64 < out.length) (l : Bs) : rdec out l = out := by
  cases l with
  | nil => rw [rdec]
  | cons a r => rw [rdec, if_pos h]
theorem rdec_rn {out : Bs} {n b : UInt8} {r : Bs} (h : ¬ 64 < out.length) (hn : 128 ≤ n.toNat) : rdec out (n :: b :: r) = rdec (out ++ List.replicate (n.toNat - 128) b) r := by
  rw [rdec, if_neg h, if_pos hn, if_neg (by simp)]; rfl
theorem rdec_re {out : Bs} {n : UInt8} (hn : 128 ≤ n.toNat) : rdec out [n] = out := by
  rw [rdec]
  split
  · rfl
  · first | rfl | (rw [if_pos hn, if_pos rfl]) | (simp [hn])
theorem rdec_lt {out : Bs} {n : UInt8} {r : Bs} (h : ¬ 64 < out.length) (hn : ¬ 128 ≤ n.toNat) : rdec out (n :: r) = rdec (out ++ r.take n.toNat) (r.drop n.toNat) := by
  rw [rdec, if_neg h, if_neg hn]
/-- What the reference returns of what was read. -/
theorem runpack_of (s out : Bs) (h : rdec [] s = out) : (packP out = some s → unpackR s = (out, true)) ∧ (packP out ≠ some s → unpackR s = ([], false)) := by
  subst h
  constructor
  · intro h
    unfold unpackR
    rw [← runpackP_eq]
    unfold runpackP
    rw [if_pos h]
  · intro h
    unfold unpackR
    rw [← runpackP_eq]
    unfold runpackP
    rw [if_neg h]
structure RI (w : World) (s : ByteArray) (i : Nat) (out : Bs) (v : Value) (W : World) : Prop where
  o : W.ownsRow 0 5 1 v out.length (bc out)
  f : ∀ g ∈ fp v, w.heap.size ≤ g
  k : Keeps [] w W
theorem RI.app {w W W' : World} {s : ByteArray} {i j : Nat} {out : Bs} {v v' : Value} {b : UInt8} (h : RI w s i out v W) (o : W'.ownsRow 0 5 1 v' (out.length + 1) (bc out ++ [.int .u8 b.toNat])) (hk : Keeps (fp v) (W.alloc (.cells #[.int .u8 b.toNat] 5)) W') (hf : ∀ g ∈ fp v', g ∈ fp v ∨ W.heap.size + 1 ≤ g) :
    RI w s j (out ++ [b]) v' W' := by
  refine ⟨?_, fun g hg => (hf g hg).elim (h.f g) (fun h1 => ?_), (h.k.alloc _).trans hk (fun g hg => .inr (h.f g hg))⟩
  · unfold bc at o ⊢
    rw [List.length_append, Lib.byteCells_append]
    exact o
  · have := h.k.size
    omega
theorem RI.at_ {w W : World} {s : ByteArray} {i j : Nat} {out : Bs} {v : Value} (h : RI w s i out v W) : RI w s j out v W := ⟨h.o, h.f, h.k⟩

set_option maxHeartbeats 6400000 in
set_option maxRecDepth 100000 in
theorem runpack_any (w : World) (s : ByteArray) (hs : s.size ≤ 100) : Calls Try.prog 11 #[.string s] w fun e w' => e = .returned (.tuple #[.string ⟨(unpackR (bys s)).1.toArray⟩, .bool (unpackR (bys s)).2]) ∧ Keeps [] w w' := by
  have HI := Lib.hid info5
  go_enter Try.func11, Try.ntmps11
  go_wp2
  go_loopw [4, 5] (fun v a wr => ∃ (i : Nat) (out : Bs), a = .int .i64 i ∧ i ≤ s.size + 1 ∧ out.length ≤ 192 ∧ RI w s i out v wr ∧ rdec [] (bys s) = rdec out ((bys s).drop i)) (fun _ a _ => s.size + 1 - (intOf a).toNat)
  case atStart => exact ⟨0, [], rfl, by omega, by simp, ⟨World.ownsRow_nil _ _ _ _, by simp, Keeps.refl _ _⟩, rfl⟩
  case round =>
    obtain ⟨i, out, rfl, hi, ho, I, hr⟩ := hrel
    obtain ⟨Av, cv, rfl, -, -, -⟩ := own_shape I.o
    have HR := Lib.hid hr
    clear hr
    by_cases hgo : i < s.size ∧ ¬ 64 < out.length
    rotate_left
    · have hout : rdec [] (bys s) = out := by
        rw [HR.out]
        by_cases h1 : i < s.size
        · exact rdec_big (by omega) _
        · rw [List.drop_of_length_le (by simp; omega), rdec_end]
      have HU := Lib.hid (runpack_of (bys s) out hout)
      have HO := Lib.hid I.o
      have HK := Lib.hid I.k
      have HP := Lib.hid (fun W => rpack_any W ⟨out.toArray⟩)
      have hrun := run_str I.o
      have hbo : bys ⟨out.toArray⟩ = out := rfl
      rw [hbo] at HP
      have td : (¬ i < s.size) ∨ (i < s.size ∧ decide ((out.length : Int) ≤ 64) = false) := by
        by_cases h1 : i < s.size
        · exact .inr ⟨h1, by simp; omega⟩
        · exact .inl h1
      clear hgo hout HR I hbo
      rcases td with td | ⟨td, te⟩
      all_goals
        go_wp2_with fail
        refine (HP.out _).mono ?_
        rintro e w2 ⟨rfl, k2⟩
        have hrun2 := run_str (own_keep HO.out k2 (by simp))
        have HK2 := Lib.hid (HK.out.trans k2 (by simp))
        clear hrun k2 HK HO HP
        cases hp : packP out with
        | none =>
          have HQ := Lib.hid (HU.out.2 (by rw [hp]; simp))
          rw [packR_none hp]
          clear hp HU
          go_wp2_with fail
          go_ret2
          show _ = Ending.returned (.tuple #[.string ⟨(unpackR (bys s)).1.toArray⟩, .bool (unpackR (bys s)).2]) ∧ _
          rw [HQ.out]
          exact ⟨rfl, HK2.out⟩
        | some t =>
          rw [packR_some hp]
          by_cases ht : t = bys s
          · have HQ := Lib.hid (HU.out.1 (by rw [hp, ht]))
            have te : (t == s.toList) = true := by rw [str_list, ht]; simp
            have tn : (t != s.toList) = false := by rw [str_list, ht]; simp
            clear hp HU ht
            go_wp2_with fail
            go_ret2
            show _ = Ending.returned (.tuple #[.string ⟨(unpackR (bys s)).1.toArray⟩, .bool (unpackR (bys s)).2]) ∧ _
            rw [HQ.out]
            exact ⟨rfl, HK2.out⟩
          · have HQ := Lib.hid (HU.out.2 (by rw [hp]; intro h; injection h with h; exact ht h))
            have te : (t == s.toList) = false := by rw [str_list]; simpa using ht
            have tn : (t != s.toList) = true := by rw [str_list]; simpa using ht
            clear hp HU ht
            go_wp2_with fail
            go_ret2
            show _ = Ending.returned (.tuple #[.string ⟨(unpackR (bys s)).1.toArray⟩, .bool (unpackR (bys s)).2]) ∧ _
            rw [HQ.out]
            exact ⟨rfl, HK2.out⟩
    obtain ⟨hlt, hsm⟩ := hgo
    have HD := Lib.hid (drop_at s i hlt)
    have hb1 := byte_lt s[i]
    have te : decide ((out.length : Int) ≤ 64) = true := by simp; omega
    by_cases hn : 128 ≤ (s[i]).toNat
    · obtain ⟨q, hq⟩ : ∃ q : Nat, (s[i]).toNat = q + 128 := ⟨(s[i]).toNat - 128, by omega⟩
      have hqb : q ≤ 127 := by omega
      have tq : decide ((128 : Int) ≤ (s[i]).toNat) = true := by simp; omega
      have ji : ((i : Int) + 1).toNat = i + 1 := by omega
      have jo : (0 : Int) ≤ (i : Int) + 1 := by omega
      by_cases h2 : i + 1 < s.size
      · have HN : Hid (rdec [] (bys s) = rdec (out ++ List.replicate q s[i + 1]) ((bys s).drop (i + 2))) := Lib.hid (by
          rw [HR.out, HD.out, drop_at s (i + 1) h2, rdec_rn hsm hn, hq, Nat.add_sub_cancel])
        have jd : decide ((i : Int) + 1 < s.size) = true := by simp; omega
        have jc : (i : Int) + 1 < s.size := by omega
        have HQ := Lib.hid hq
        have HSM := Lib.hid hsm
        clear HR HD hq hn hsm
        go_wp2_with fail
        obtain ⟨wo, rfl⟩ : ∃ wo : World, wo = wr := ⟨_, rfl⟩
        go_loopw [4, 7] (fun v c wz => ∃ k : Nat, k ≤ q ∧ c = .int .i64 ((128 : Int) + k) ∧ RI w s i (out ++ List.replicate k s[i + 1]) v wz) (fun _ c _ => q + 128 - (intOf c).toNat)
        case atStart => exact ⟨0, by omega, by simp, by simpa using I⟩
        case round =>
          clear I te tq
          obtain ⟨k, hk, rfl, I⟩ := hrel
          obtain ⟨Au, cu, rfl, -, -, -⟩ := own_shape I.o
          have hlen : (out ++ List.replicate k s[i + 1]).length ≤ 191 := by have := HSM.out; simp; omega
          by_cases hkq : k < q
          · have tk : decide ((128 : Int) + k < ((s[i]).toNat : Int)) = true := by have := HQ.out; simp; omega
            have hsn : out ++ List.replicate (k + 1) s[i + 1] = (out ++ List.replicate k s[i + 1]) ++ [s[i + 1]] := by rw [List.replicate_succ', ← List.append_assoc]
            have HSN := Lib.hid hsn
            have hII := I
            clear hsn
            generalize out ++ List.replicate k s[i + 1] = M at *
            have HI2 := Lib.hid hII
            have HO := Lib.hid (own_keep I.o ((Keeps.refl [] _).alloc (.cells #[.int .u8 s[i + 1].toNat] 5)) (by simp))
            clear hII I
            go_wp2_with (at_builtin; refine wpList_app _ rfl (.tmp 39) (.tmp 43) _ rfl 5 (.int .u8 0) 1 1 Try.underlying27 HI.out rfl (by omega) (.slice Au M.length cu) _ _ rfl HO.out _ _ _ _ [.int .u8 s[i + 1].toNat] rfl (reads_one _ _ 5) (by simp [Value.oneCell']) (by unfold maxLen; omega) (by omega) ?_)
            intro v6 w6 o6 k6 f6
            have HF := Lib.hid (HI2.out.app (j := i) o6 k6 f6)
            clear o6 k6 f6 HO HI2
            go_wp2_with fail
            go_roundw
            case rel => exact ⟨k + 1, by omega, by rw [show ((128 : Int) + (k + 1 : Nat)) = (128 : Int) + k + 1 by omega], by rw [HSN.out]; exact HF.out⟩
            case measure => simp [intOf]; omega
          · obtain rfl : q = k := by omega
            have tk : decide ((128 : Int) + q < ((s[i]).toNat : Int)) = false := by have := HQ.out; simp; omega
            have HI2 := Lib.hid I
            have HL := Lib.hid hlen
            clear I hlen
            go_wp2_with fail
            go_roundw
            case rel => exact ⟨i + 2, _, by go_num, by omega, by have := HL.out; omega, HI2.out.at_, HN.out⟩
            case measure => simp [intOf]; omega
      · have HN : Hid (rdec [] (bys s) = rdec out ((bys s).drop (i + 2))) := Lib.hid (by
          rw [HR.out, HD.out, List.drop_of_length_le (i := i + 1) (by simp; omega), List.drop_of_length_le (i := i + 2) (by simp; omega), rdec_re hn, rdec_end])
        have jd : decide ((i : Int) + 1 < s.size) = false := by simp; omega
        have HQ := Lib.hid hq
        have HSM := Lib.hid hsm
        clear HR HD hq hn hsm h2
        go_wp2_with fail
        obtain ⟨wo, rfl⟩ : ∃ wo : World, wo = wr := ⟨_, rfl⟩
        go_loopw [4, 7] (fun v c wz => c = .int .i64 128 ∧ v = .slice Av out.length cv ∧ wz = wo) (fun _ c _ => 0)
        case atStart => exact ⟨rfl, rfl, rfl⟩
        case round =>
          clear te tq
          obtain ⟨rfl, rfl, rfl⟩ := hrel
          have HI2 := Lib.hid I
          clear I
          by_cases hq0 : 0 < q
          · have tk : decide ((128 : Int) < ((s[i]).toNat : Int)) = true := by have := HQ.out; simp; omega
            go_wp2_with fail
            go_roundw
            case rel => exact ⟨i + 2, _, by go_num, by omega, by have := HSM.out; omega, HI2.out.at_, HN.out⟩
            case measure => simp [intOf]; omega
          · have tk : decide ((128 : Int) < ((s[i]).toNat : Int)) = false := by have := HQ.out; simp; omega
            go_wp2_with fail
            go_roundw
            case rel => exact ⟨i + 2, _, by go_num, by omega, by have := HSM.out; omega, HI2.out.at_, HN.out⟩
            case measure => simp [intOf]; omega
    · have tq : decide ((128 : Int) ≤ (s[i]).toNat) = false := by simp; omega
      obtain ⟨q, hq⟩ : ∃ q : Nat, (s[i]).toNat = q := ⟨_, rfl⟩
      have HN : Hid (rdec [] (bys s) = rdec (out ++ ((bys s).drop (i + 1)).take q) ((bys s).drop (i + 1 + q))) := Lib.hid (by
          rw [HR.out, HD.out, rdec_lt hsm hn, hq, List.drop_drop])
      have hqb : q ≤ 127 := by omega
      have HQ := Lib.hid hq
      have HSM := Lib.hid hsm
      clear HR HD hq hn hsm
      go_wp2_with fail
      obtain ⟨wo, rfl⟩ : ∃ wo : World, wo = wr := ⟨_, rfl⟩
      go_loopw [4, 5, 8] (fun v a c wz => ∃ k : Nat, k ≤ q ∧ c = .int .i64 k ∧ a = .int .i64 ((i : Int) + 1 + k) ∧ i + 1 + k ≤ s.size ∧ RI w s i (out ++ ((bys s).drop (i + 1)).take k) v wz) (fun _ _ c _ => q - (intOf c).toNat)
      case atStart => exact ⟨0, by omega, rfl, by simp, by omega, by simpa using I⟩
      case round =>
        clear I te tq
        obtain ⟨k, hk, rfl, rfl, hik, I⟩ := hrel
        obtain ⟨Au, cu, rfl, -, -, -⟩ := own_shape I.o
        have hlen : (out ++ ((bys s).drop (i + 1)).take k).length ≤ 191 := by have := HSM.out; simp only [List.length_append, List.length_take]; omega
        have ji : ((i : Int) + 1 + k).toNat = i + 1 + k := by omega
        have jo : (0 : Int) ≤ (i : Int) + 1 + k := by omega
        by_cases hkq : k < q ∧ i + 1 + k < s.size
        · obtain ⟨hkq, hks⟩ := hkq
          have tk : decide ((k : Int) < ((s[i]).toNat : Int)) = true := by have := HQ.out; simp; omega
          have tk2 : decide (k < (s[i]).toNat) = true := by have := HQ.out; simp; omega
          have jd : decide ((i : Int) + 1 + k < s.size) = true := by simp; omega
          have jc : (i : Int) + 1 + k < s.size := by omega
          have hsn : out ++ ((bys s).drop (i + 1)).take (k + 1) = (out ++ ((bys s).drop (i + 1)).take k) ++ [s[i + 1 + k]] := by
            rw [List.append_assoc, List.take_succ_eq_append_getElem (by simp; omega)]
            congr 2
            simp
            rfl
          have HSN := Lib.hid hsn
          have hII := I
          clear hsn
          generalize out ++ ((bys s).drop (i + 1)).take k = M at *
          have HI2 := Lib.hid hII
          have HO := Lib.hid (own_keep I.o ((Keeps.refl [] _).alloc (.cells #[.int .u8 s[i + 1 + k].toNat] 5)) (by simp))
          clear hII I
          go_wp2_with (at_builtin; refine wpList_app _ rfl (.tmp 58) (.tmp 62) _ rfl 5 (.int .u8 0) 1 1 Try.underlying27 HI.out rfl (by omega) (.slice Au M.length cu) _ _ rfl HO.out _ _ _ _ [.int .u8 s[i + 1 + k].toNat] rfl (reads_one _ _ 5) (by simp [Value.oneCell']) (by unfold maxLen; omega) (by omega) ?_)
          intro v6 w6 o6 k6 f6
          have HF := Lib.hid (HI2.out.app (j := i) o6 k6 f6)
          clear o6 k6 f6 HO HI2
          go_wp2_with fail
          go_roundw
          case rel => exact ⟨k + 1, by omega, by go_num, by rw [show ((i : Int) + 1 + (k + 1 : Nat)) = (i : Int) + 1 + k + 1 by omega], by omega, by rw [HSN.out]; exact HF.out⟩
          case measure => simp [intOf]; omega
        · have hfin : rdec [] (bys s) = rdec (out ++ ((bys s).drop (i + 1)).take k) ((bys s).drop (i + 1 + k)) := by
            rw [HN.out]
            by_cases hkq2 : k < q
            · have e : i + 1 + k = s.size := by omega
              rw [List.take_of_length_le (i := q) (by simp; omega), List.take_of_length_le (i := k) (by simp; omega), List.drop_of_length_le (i := i + 1 + q) (by simp; omega), List.drop_of_length_le (i := i + 1 + k) (by simp; omega)]
            · obtain rfl : k = q := by omega
              rfl
          have HFI := Lib.hid hfin
          have HI2 := Lib.hid I
          have HL := Lib.hid hlen
          have td : (decide (k < (s[i]).toNat) = false) ∨ (decide (k < (s[i]).toNat) = true ∧ decide ((i : Int) + 1 + k < s.size) = false) := by
            have := HQ.out
            by_cases h1 : k < q
            · exact .inr ⟨by simp; omega, by simp; omega⟩
            · exact .inl (by simp; omega)
          clear hfin I hlen hkq
          rcases td with td | ⟨td, te⟩
          all_goals
            go_wp2_with fail
            go_roundw
            case rel => exact ⟨i + 1 + k, _, by go_num, by omega, by have := HL.out; omega, HI2.out.at_, HFI.out⟩
            case measure => simp [intOf]; omega
end Go.Proofs.Ytcoecpglnabbpaa
