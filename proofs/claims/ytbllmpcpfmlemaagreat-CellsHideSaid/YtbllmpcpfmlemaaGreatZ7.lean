/- equal; many operations one after the other. -/
import Derived.Test.YtbllmpcpfmlemaaGreatZ6
namespace Go.Proofs.YtbllmpcpfmlemaaGreat
open Go.RowKit

section
variable {w : World} {c d : Nat} {F G F2 G2 : List Nat} {C D : St} {P : List Str}
theorem names_len (hW : WF P C) (hP : PoolOk P) (i : Int) : (namesP C i).length ≤ 1000000 := by
  unfold namesP
  cases hf : find C i with
  | none => simp
  | some x =>
    have hok := hW.ok x (find_mem hf).1
    have := hP.leK hok.lg hok.lp
    simpa using this
theorem rds_lst (hW : WF P C) (hP : PoolOk P) (i : Int) : ∀ r ∈ rdsP C i, (lstR r).length ≤ 1000000 := by
  unfold rdsP
  cases hf : find C i with
  | none => simp
  | some x =>
    have hok := hW.ok x (find_mem hf).1
    intro r hr
    cases r with
    | cell a b => simp [lstR]
    | keys p l => exact hP.le (hok.ls p l hr).1 (fun s hs => ((hok.ls p l hr).2 s hs).1)
theorem rds_len (hW : WF P C) (hP : PoolOk P) (i : Int) : (rdsP C i).length ≤ 2000000 := by
  unfold rdsP
  cases hf : find C i with
  | none => simp
  | some x => exact rd_le hW hP (find_mem hf).1
theorem live_i64 (hW : WF P C) {i : Int} (hi : i ∈ liveP C) : I64 i := by
  obtain ⟨x, hx, rfl⟩ := has_iff.1 (((live_ok hW.tree).2 i).1 hi).2
  exact ⟨(hW.ok x hx).id1, (hW.ok x hx).id2⟩
theorem alike_any (h : Cs w c F G C) (h2 : Cs w d F2 G2 D) (hW : WF P C) (hW2 : WF P D) (hP : PoolOk P) {i : Int} (hi : I64 i) (ha : AlikeP C D i) :
    Calls Tryz.prog 35 #[.pointer (some ⟨c, 0, none⟩), .pointer (some ⟨d, 0, none⟩), .int .i64 i] w fun e w' => e = .returned (.bool true) ∧ Keeps [] w w' := by
  have a1 := h.asks hW hP hi
  have a2 := h2.asks hW2 hP hi
  have e1 : namesP D i = namesP C i := by unfold namesP; rw [ha.f]
  have e2 : wrP D i = wrP C i := by unfold wrP; rw [ha.f]
  have e3 : rdsP D i = rdsP C i := by unfold rdsP; rw [ha.f]
  have e4 : logsP D i = logsP C i := by funext k; unfold logsP; rw [ha.f]
  rw [e1, e2, e3, e4, ← ha.v] at a2
  exact alike_asks w c d i _ _ _ _ _ a1 a2 (names_len hW hP i) (rds_lst hW hP i) (rds_len hW hP i)
set_option maxRecDepth 100000 in
set_option maxHeartbeats 3200000 in
theorem equal_any (h : Cs w c F G C) (h2 : Cs w d F2 G2 C) (hW : WF P C) (hP : PoolOk P) (hl : C.length ≤ 1000000) :
    Calls Tryz.prog 37 #[.pointer (some ⟨c, 0, none⟩), .pointer (some ⟨d, 0, none⟩)] w fun e w' => e = .returned (.bool true) ∧ Keeps [] w w' := by
  have CL := Lib.hid (live_any h hW hl)
  have CM : Hid (∀ W, Keeps [] w W → Calls Tryz.prog 20 #[.pointer (some ⟨d, 0, none⟩)] W fun e w' => ∃ v, e = .returned v ∧ w'.ownsRow 0 3 1 v (liveP C).length (zs (liveP C)) ∧ Keeps [] W w' ∧ ∀ g ∈ fp v, W.heap.size ≤ g) := Lib.hid (fun W k => live_any (h2.keep0 k) hW hl)
  have CA : Hid (∀ W i, Keeps [] w W → i ∈ (0 :: liveP C) → Calls Tryz.prog 35 #[.pointer (some ⟨c, 0, none⟩), .pointer (some ⟨d, 0, none⟩), .int .i64 i] W fun e w' => e = .returned (.bool true) ∧ Keeps [] W w') := Lib.hid (fun W i k hi => by
    refine alike_any (h.keep0 k) (h2.keep0 k) hW hW hP ?_ (AlikeP.refl C i)
    rcases List.mem_cons.1 hi with rfl | hi
    · exact ⟨by omega, by omega⟩
    · exact live_i64 hW hi)
  have hml : (liveP C).length ≤ 2000000 := by have := live_len (C := C); omega
  obtain ⟨l, hll⟩ : ∃ l, liveP C = l := ⟨_, rfl⟩
  rw [hll] at CL CM CA hml
  clear h h2 hW hP hl hll
  go_enter Tryz.func37, Tryz.ntmps37
  go_wp2_with fail
  refine CL.out.mono ?_
  rintro e w1 ⟨v, rfl, h1, k1, -⟩
  obtain ⟨A, cc, rfl, -, -, -⟩ := own_shape h1
  have HN := Lib.hid h1
  have K1 := Lib.hid k1
  clear h1 k1 CL
  go_wp2_with fail
  refine (CM.out _ K1.out).mono ?_
  rintro e w2 ⟨v, rfl, h1, k1, -⟩
  obtain ⟨B, bc, rfl, -, -, -⟩ := own_shape h1
  have HM := Lib.hid (AtZ.of_own h1 hml)
  have K2 := Lib.hid (K1.out.trans k1 (by simp))
  have HN2 := Lib.hid (own_keep HN.out k1 (by simp))
  clear h1 k1 CM K1 HN
  go_wp2_with fail
  refine (ints_any w2 A B l l cc bc (AtZ.of_own HN2.out hml) HM.out).mono ?_
  rw [decide_eq_true (rfl : l = l)]
  rintro e w3 ⟨rfl, k1⟩
  have K3 := Lib.hid (K2.out.trans k1 (by simp))
  have HN3 := Lib.hid (own_keep HN2.out k1 (by simp))
  clear k1 K2 HN2 HM
  go_wp2_with fail
  refine (CA.out _ 0 K3.out (by simp)).mono ?_
  rintro e w4 ⟨rfl, k1⟩
  have K4 := Lib.hid (K3.out.trans k1 (by simp))
  have HN4 := Lib.hid (own_keep HN3.out k1 (by simp))
  clear k1 K3 HN3
  go_wp2_with fail
  go_loopw [6] (fun iv wr => ∃ k : Nat, k ≤ l.length ∧ iv = .int .i64 k ∧ Keeps [] w wr ∧ wr.ownsRow 0 3 1 (.slice A l.length cc) l.length (zs l)) (fun iv _ => l.length - (intOf iv).toNat)
  case atStart => exact ⟨0, by omega, rfl, K4.out, HN4.out⟩
  case round =>
    obtain ⟨k, hk, rfl, hkr, hnr⟩ := hrel
    clear K4 HN4
    have KR := Lib.hid hkr
    have HN := Lib.hid hnr
    clear hkr hnr
    by_cases hlt : k < l.length
    · obtain ⟨A', c', hv, -, -, hA⟩ := own_shape HN.out
      obtain ⟨g1, hg1⟩ := hA (by omega)
      obtain ⟨rfl, -, rfl⟩ : A = A' ∧ l.length = l.length ∧ cc = c' := by injection hv with h1 h2 h3; exact ⟨h1, rfl, h3⟩
      subst hg1
      have i0 : (0 : Int) ≤ (k : Int) := by omega
      have i1 : (k : Int) < (l.length : Int) := by omega
      have HC : wr.cell? ⟨g1, k, none⟩ = some (.int .i64 l[k]) := by
        have := own_cell HN.out (j := k) (u := .int .i64 l[k]) (by simp [zs, hlt])
        exact this
      have CK := Lib.hid (CA.out wr l[k] KR.out (by simp))
      clear hv hA
      go_wp2_with fail
      refine CK.out.mono ?_
      rintro e w5 ⟨rfl, k1⟩
      have K5 := Lib.hid (KR.out.trans k1 (by simp))
      have HN5 := Lib.hid (own_keep HN.out k1 (by simp))
      clear k1 KR HN CK HC
      go_wp2_with fail
      exact ⟨⟨k + 1, by omega, rfl, K5.out, HN5.out⟩, by simp only [intOf]; omega⟩
    · obtain rfl : k = l.length := by omega
      have i1 : ¬ ((l.length : Int) < (l.length : Int)) := by omega
      go_wp2_with fail
      go_ret
      exact ⟨rfl, KR.out⟩
end
end Go.Proofs.YtbllmpcpfmlemaaGreat
