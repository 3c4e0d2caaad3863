/- The reference: Pieces, the walk. -/
import Derived.Test.YtcoecpglnabbpaaE2
namespace Go.Proofs.Ytcoecpglnabbpaa
open Go.RowKit

set_option maxHeartbeats 6400000 in
set_option maxRecDepth 100000 in
theorem rpieces_any (s : ByteArray) (w : World) (hs : s.size ≤ 1000) :
    Calls Try.prog 22 #[.string s] w fun e w' => ∃ v, e = .returned v ∧ w'.ownsRow 0 9 1 v (ps1 (bys s)).length (sc (ps1 (bys s))) ∧ Keeps [] w w' ∧ ∀ g ∈ fp v, w.heap.size ≤ g := by
  have HI9 := Lib.hid info9
  go_enter Try.func22, Try.ntmps22
  go_wp2
  go_loopw [3, 4] (fun v a wr => ∃ (i : Nat) (pre : List Bs), a = .int .i64 i ∧ i ≤ s.size ∧ pre.length ≤ i ∧ ps1 (bys s) = pre ++ ps1 ((bys s).drop i) ∧ wr.ownsRow 0 9 1 v pre.length (sc pre) ∧ (∀ g ∈ fp v, w.heap.size ≤ g) ∧ Keeps [] w wr) (fun _ a _ => s.size - (intOf a).toNat)
  case atStart => exact ⟨0, [], rfl, by omega, by simp, by simp, World.ownsRow_nil _ _ _ _, by simp, Keeps.refl _ _⟩
  case round =>
    obtain ⟨i, pre, rfl, hi, hpl, hpre, ov, fv, kp⟩ := hrel
    obtain ⟨Av, cv, rfl, -, -, -⟩ := own_shape ov
    have HP := Lib.hid hpre
    clear hpre
    by_cases hlt : i < s.size
    rotate_left
    · obtain rfl : i = s.size := by omega
      have hd : (bys s).drop s.size = [] := List.drop_of_length_le (by simp)
      have hfin : ps1 (bys s) = pre := by rw [HP.out, hd, ps1_nil, List.append_nil]
      have HF := Lib.hid hfin
      clear hfin hd
      go_wp2
      go_ret
      rw [HF.out]
      exact ⟨_, rfl, ov, kp, fv⟩
    have HB := Lib.hid (begins_any s i wr hs hlt)
    have hel := eqN_le ((bys s).drop i)
    have hll := lit_le ((bys s).drop i)
    simp only [List.length_drop, bys_size_] at hel hll
    go_wp2_with fail
    refine HB.out.mono ?_
    rintro e w2 ⟨rfl, d, rfl⟩
    have kq0 : Keeps [] wr (wr.drewN d) := (Keeps.refl [] wr).drewN d
    obtain ⟨wo, rfl⟩ : ∃ wo : World, wo = wr := ⟨_, rfl⟩
    cases hb : beg s i with
    | true =>
      have HN := Lib.hid (ps1_run hlt hb)
      have h3 : 3 ≤ eqN ((bys s).drop i) := of_decide_eq_true hb
      have HST : Hid (∀ k, 1 ≤ k → (h : i + k < s.size) → k ≤ eqN ((bys s).drop i) → (s[i + k] = s[i] ∧ k + 1 ≤ eqN ((bys s).drop i)) ∨ (s[i + k] ≠ s[i] ∧ k = eqN ((bys s).drop i))) := Lib.hid (fun k h1 h2 h4 => run_step h1 h2 h4)
      have hml : i + eqN ((bys s).drop i) ≤ s.size := by omega
      clear hb HB hel hll
      generalize eqN ((bys s).drop i) = z at *
      go_wp2_with fail
      generalize wo.drewN d = wl at *
      go_loopw [5] (fun b wz => ∃ k : Nat, 1 ≤ k ∧ k ≤ z ∧ b = .int .i64 ((i : Int) + k) ∧ Keeps [] wo wz) (fun b _ => s.size - (intOf b).toNat)
      case atStart => exact ⟨1, by omega, by omega, by simp, kq0⟩
      case round =>
        clear kq0
        obtain ⟨k, hk1, hk2, rfl, kq⟩ := hrel
        have j0 : (0 : Int) ≤ (i : Int) + k := by omega
        have jn : ((i : Int) + k).toNat = i + k := by omega
        have ja : (0 : Int) ≤ i := by omega
        have jb : (i : Int) < s.size := by omega
        have jm : i + k ≤ 1000 := by omega
        by_cases hkn : i + k < s.size
        · have jd : decide ((i : Int) + k < s.size) = true := by simp; omega
          have jc : (i : Int) + k < s.size := by omega
          rcases HST.out k hk1 hkn hk2 with ⟨he, hk3⟩ | ⟨he, rfl⟩
          · have eb : ((s[i + k].toNat : Int) == (s[i].toNat : Int)) = true := by simp [he]
            clear he
            go_wp2_with fail
            go_quiet (fail)
            go_wp2
            go_roundw
            case rel => exact ⟨k + 1, by omega, hk3, by rw [show ((i : Int) + (k + 1 : Nat)) = (i : Int) + k + 1 by omega], kq.drewN _⟩
            case measure => simp [intOf]; omega
          · have eb : ((s[i + k].toNat : Int) == (s[i].toNat : Int)) = false := by
              simp only [beq_eq_false_iff_ne, ne_eq]
              intro h
              exact he (UInt8.toNat_inj.1 (by omega))
            have HZ := Lib.hid hml
            clear he hk2 hml HST
            go_wp2_with fail
            go_quiet (fail)
            have kq9 := kq.drewN nq
            have hkl := HZ.out
            clear kq eb jd
            generalize wr.drewN nq = W9 at *
            have hcut := cut_str s i k
            have hov := own_keep ov kq9 (by simp)
            have hkk := kp.trans kq9 (by simp)
            have hzz := hkk.size
            have HO := Lib.hid hov
            have HKK := Lib.hid hkk
            have HCUT := Lib.hid hcut
            have jik : (0 : Int) ≤ (i : Int) + k := by omega
            have hpl2 : pre.length ≤ 1000 := by omega
            have jkl : (i : Int) + k ≤ s.size := by omega
            have HKL := Lib.hid hkl
            clear hov hkk hcut ov kp kq9 hkl
            go_wp2_with (at_builtin; refine wpList_app _ rfl (.tmp 42) (.tmp 47) _ rfl 9 (.string ⟨#[]⟩) 1 16 Try.underlying49 HI9.out rfl (by omega) (.slice Av pre.length cv) _ _ rfl (own_keep HO.out ((Keeps.refl [] _).alloc _) (by simp)) _ _ _ _ [.string (s.extract i (i + k))] rfl (reads_one _ _ 9) (by simp [Value.oneCell']) (by unfold maxLen; omega) (by omega) ?_)
            intro v6 w6 o6 k6 f6
            have hr6 : w6.ownsRow 0 9 1 v6 (pre ++ [((bys s).drop i).take k]).length (sc (pre ++ [((bys s).drop i).take k])) := by
              have e : sc (pre ++ [((bys s).drop i).take k]) = sc pre ++ [.string (s.extract i (i + k))] := by rw [HCUT.out]; simp [sc, st]
              rw [e, List.length_append]
              exact o6
            have k7 := (HKK.out.alloc (.cells #[.string (s.extract i (i + k))] 9)).trans k6 (fun g hg => .inr (fv g hg))
            have f7 : ∀ g ∈ fp v6, w.heap.size ≤ g := fun g hg => (f6 g hg).elim (fv g) (fun h => by first | omega | (simp at h; omega))
            have HR6 := Lib.hid hr6
            have HF7 := Lib.hid f7
            clear hr6 o6 k6 f6 f7 HO HKK HCUT
            go_wp2_with fail
            go_roundw
            case rel => exact ⟨i + k, pre ++ [((bys s).drop i).take k], by go_num, HKL.out, by simp; omega, by rw [HP.out, HN.out]; simp, HR6.out, HF7.out, k7⟩
            case measure => simp [intOf]; omega
        · obtain rfl : z = k := by omega
          have jd : decide ((i : Int) + z < s.size) = false := by simp; omega
          have HZ := Lib.hid hml
          clear hk2 hml HST
          go_wp2_with fail
          go_quiet (fail)
          have kq9 := kq.drewN nq
          have hkl := HZ.out
          clear kq jd
          generalize wr.drewN nq = W9 at *
          have hcut := cut_str s i z
          have hov := own_keep ov kq9 (by simp)
          have hkk := kp.trans kq9 (by simp)
          have hzz := hkk.size
          have HO := Lib.hid hov
          have HKK := Lib.hid hkk
          have HCUT := Lib.hid hcut
          have jik : (0 : Int) ≤ (i : Int) + z := by omega
          have hpl2 : pre.length ≤ 1000 := by omega
          have jkl : (i : Int) + z ≤ s.size := by omega
          have HKL := Lib.hid hkl
          clear hov hkk hcut ov kp kq9 hkl
          go_wp2_with (at_builtin; refine wpList_app _ rfl (.tmp 42) (.tmp 47) _ rfl 9 (.string ⟨#[]⟩) 1 16 Try.underlying49 HI9.out rfl (by omega) (.slice Av pre.length cv) _ _ rfl (own_keep HO.out ((Keeps.refl [] _).alloc _) (by simp)) _ _ _ _ [.string (s.extract i (i + z))] rfl (reads_one _ _ 9) (by simp [Value.oneCell']) (by unfold maxLen; omega) (by omega) ?_)
          intro v6 w6 o6 k6 f6
          have hr6 : w6.ownsRow 0 9 1 v6 (pre ++ [((bys s).drop i).take z]).length (sc (pre ++ [((bys s).drop i).take z])) := by
            have e : sc (pre ++ [((bys s).drop i).take z]) = sc pre ++ [.string (s.extract i (i + z))] := by rw [HCUT.out]; simp [sc, st]
            rw [e, List.length_append]
            exact o6
          have k7 := (HKK.out.alloc (.cells #[.string (s.extract i (i + z))] 9)).trans k6 (fun g hg => .inr (fv g hg))
          have f7 : ∀ g ∈ fp v6, w.heap.size ≤ g := fun g hg => (f6 g hg).elim (fv g) (fun h => by first | omega | (simp at h; omega))
          have HR6 := Lib.hid hr6
          have HF7 := Lib.hid f7
          clear hr6 o6 k6 f6 f7 HO HKK HCUT
          go_wp2_with fail
          go_roundw
          case rel => exact ⟨i + z, pre ++ [((bys s).drop i).take z], by go_num, HKL.out, by simp; omega, by rw [HP.out, HN.out]; simp, HR6.out, HF7.out, k7⟩
          case measure => simp [intOf]; omega
    | false =>
      have HN := Lib.hid (ps1_lit hlt hb)
      have h3 : ¬ 3 ≤ eqN ((bys s).drop i) := of_decide_eq_false hb
      have hm1 : 1 ≤ lit ((bys s).drop i) := by
        have h1 := eqN_lit (l := (bys s).drop i) (by omega)
        have h2 : 1 ≤ eqN ((bys s).drop i) := by rw [drop_at s i hlt]; exact eqN_pos
        omega
      have HST : Hid (∀ k, k ≤ lit ((bys s).drop i) → i + k < s.size → (beg s (i + k) = false ∧ k + 1 ≤ lit ((bys s).drop i)) ∨ (beg s (i + k) = true ∧ k = lit ((bys s).drop i))) := Lib.hid (fun k h1 h2 => by
        have := lit_step (l := (bys s).drop i) (n := k) h1 (by simp; omega)
        rw [List.drop_drop] at this
        unfold beg
        rcases this with ⟨a1, a2⟩ | ⟨a1, a2⟩
        · exact .inl ⟨decide_eq_false (by omega), a2⟩
        · exact .inr ⟨decide_eq_true a1, a2⟩)
      have hml : i + lit ((bys s).drop i) ≤ s.size := by omega
      clear hb HB hel hll h3
      generalize lit ((bys s).drop i) = z at *
      go_wp2_with fail
      generalize wo.drewN d = wl at *
      go_loopw [5] (fun b wz => ∃ k : Nat, 1 ≤ k ∧ k ≤ z ∧ b = .int .i64 ((i : Int) + k) ∧ Keeps [] wo wz) (fun b _ => s.size - (intOf b).toNat)
      case atStart => exact ⟨1, by omega, by omega, by simp, kq0⟩
      case round =>
        clear kq0 hm1
        obtain ⟨k, hk1, hk2, rfl, kq⟩ := hrel
        have j0 : (0 : Int) ≤ (i : Int) + k := by omega
        have jm : i + k ≤ 1000 := by omega
        by_cases hkn : i + k < s.size
        · have jd : decide ((i : Int) + k < s.size) = true := by simp; omega
          have HC := Lib.hid (begins_any s (i + k) wr hs hkn)
          have hcast : ((i + k : Nat) : Int) = (i : Int) + k := by omega
          rw [hcast] at HC
          clear hcast
          rcases HST.out k hk2 hkn with ⟨he, hk3⟩ | ⟨he, rfl⟩
          · rw [he] at HC
            clear he
            go_wp2_with fail
            refine HC.out.mono ?_
            rintro e w3 ⟨rfl, d2, rfl⟩
            go_wp2_with fail
            go_roundw
            case rel => exact ⟨k + 1, by omega, hk3, by rw [show ((i : Int) + (k + 1 : Nat)) = (i : Int) + k + 1 by omega], kq.drewN _⟩
            case measure => simp [intOf]; omega
          · rw [he] at HC
            have HZ := Lib.hid hml
            clear he hk2 hml HST
            go_wp2_with fail
            refine HC.out.mono ?_
            rintro e w3 ⟨rfl, d2, rfl⟩
            have kq9 := kq.drewN d2
            have hkl := HZ.out
            clear kq HC jd
            generalize wr.drewN d2 = W9 at *
            have hcut := cut_str s i k
            have hov := own_keep ov kq9 (by simp)
            have hkk := kp.trans kq9 (by simp)
            have hzz := hkk.size
            have HO := Lib.hid hov
            have HKK := Lib.hid hkk
            have HCUT := Lib.hid hcut
            have jik : (0 : Int) ≤ (i : Int) + k := by omega
            have hpl2 : pre.length ≤ 1000 := by omega
            have jkl : (i : Int) + k ≤ s.size := by omega
            have HKL := Lib.hid hkl
            clear hov hkk hcut ov kp kq9 hkl
            go_wp2_with (at_builtin; refine wpList_app _ rfl (.tmp 42) (.tmp 47) _ rfl 9 (.string ⟨#[]⟩) 1 16 Try.underlying49 HI9.out rfl (by omega) (.slice Av pre.length cv) _ _ rfl (own_keep HO.out ((Keeps.refl [] _).alloc _) (by simp)) _ _ _ _ [.string (s.extract i (i + k))] rfl (reads_one _ _ 9) (by simp [Value.oneCell']) (by unfold maxLen; omega) (by omega) ?_)
            intro v6 w6 o6 k6 f6
            have hr6 : w6.ownsRow 0 9 1 v6 (pre ++ [((bys s).drop i).take k]).length (sc (pre ++ [((bys s).drop i).take k])) := by
              have e : sc (pre ++ [((bys s).drop i).take k]) = sc pre ++ [.string (s.extract i (i + k))] := by rw [HCUT.out]; simp [sc, st]
              rw [e, List.length_append]
              exact o6
            have k7 := (HKK.out.alloc (.cells #[.string (s.extract i (i + k))] 9)).trans k6 (fun g hg => .inr (fv g hg))
            have f7 : ∀ g ∈ fp v6, w.heap.size ≤ g := fun g hg => (f6 g hg).elim (fv g) (fun h => by first | omega | (simp at h; omega))
            have HR6 := Lib.hid hr6
            have HF7 := Lib.hid f7
            clear hr6 o6 k6 f6 f7 HO HKK HCUT
            go_wp2_with fail
            go_roundw
            case rel => exact ⟨i + k, pre ++ [((bys s).drop i).take k], by go_num, HKL.out, by simp; omega, by rw [HP.out, HN.out]; simp, HR6.out, HF7.out, k7⟩
            case measure => simp [intOf]; omega
        · obtain rfl : z = k := by omega
          have jd : decide ((i : Int) + z < s.size) = false := by simp; omega
          have HZ := Lib.hid hml
          clear hk2 hml HST
          have kq9 := kq
          have hkl := HZ.out
          clear kq
          have hcut := cut_str s i z
          have hov := own_keep ov kq9 (by simp)
          have hkk := kp.trans kq9 (by simp)
          have hzz := hkk.size
          have HO := Lib.hid hov
          have HKK := Lib.hid hkk
          have HCUT := Lib.hid hcut
          have jik : (0 : Int) ≤ (i : Int) + z := by omega
          have hpl2 : pre.length ≤ 1000 := by omega
          have jkl : (i : Int) + z ≤ s.size := by omega
          have HKL := Lib.hid hkl
          clear hov hkk hcut ov kp kq9 hkl
          go_wp2_with (at_builtin; refine wpList_app _ rfl (.tmp 42) (.tmp 47) _ rfl 9 (.string ⟨#[]⟩) 1 16 Try.underlying49 HI9.out rfl (by omega) (.slice Av pre.length cv) _ _ rfl (own_keep HO.out ((Keeps.refl [] _).alloc _) (by simp)) _ _ _ _ [.string (s.extract i (i + z))] rfl (reads_one _ _ 9) (by simp [Value.oneCell']) (by unfold maxLen; omega) (by omega) ?_)
          intro v6 w6 o6 k6 f6
          have hr6 : w6.ownsRow 0 9 1 v6 (pre ++ [((bys s).drop i).take z]).length (sc (pre ++ [((bys s).drop i).take z])) := by
            have e : sc (pre ++ [((bys s).drop i).take z]) = sc pre ++ [.string (s.extract i (i + z))] := by rw [HCUT.out]; simp [sc, st]
            rw [e, List.length_append]
            exact o6
          have k7 := (HKK.out.alloc (.cells #[.string (s.extract i (i + z))] 9)).trans k6 (fun g hg => .inr (fv g hg))
          have f7 : ∀ g ∈ fp v6, w.heap.size ≤ g := fun g hg => (f6 g hg).elim (fv g) (fun h => by first | omega | (simp at h; omega))
          have HR6 := Lib.hid hr6
          have HF7 := Lib.hid f7
          clear hr6 o6 k6 f6 f7 HO HKK HCUT
          go_wp2_with fail
          go_roundw
          case rel => exact ⟨i + z, pre ++ [((bys s).drop i).take z], by go_num, HKL.out, by simp; omega, by rw [HP.out, HN.out]; simp, HR6.out, HF7.out, k7⟩
          case measure => simp [intOf]; omega
end Go.Proofs.Ytcoecpglnabbpaa
