/- Texts of the elder seat, turned to this one: W21 W22. -/
import Derived.Test.YtbllmpcpfmlemaaGreatMK
import Derived.Test.YtbllmpcpfmlemaaGreatME
import Derived.LaidEqlPtr
namespace Go.Proofs.YtbllmpcpfmlemaaGreat
open Go.RowKit
theorem info77 : (Tryz.prog.info? 77).map (·.size) = some 7 := by kernel_rfl
theorem ptr_same (w : World) (b : Nat) : (binOp .eql 61 (.pointer (some ⟨b, 0, none⟩)) (.pointer (some ⟨b, 0, none⟩))).run Tryz.prog w = .ok (.bool true) w := by
  have h := info77
  cases hj : Tryz.prog.info? 77 with
  | none => rw [hj] at h; cases h
  | some j => exact run_eql_ptr_same w _ Tryz.underlying61 hj
theorem ptr_other {w : World} {a b : Nat} {ca cb : Array Value} {ta tb : TypeId} (hne : a ≠ b) (ha : Blk w a ta ca) (hb : Blk w b tb cb) : (binOp .eql 61 (.pointer (some ⟨a, 0, none⟩)) (.pointer (some ⟨b, 0, none⟩))).run Tryz.prog w = .ok (.bool false) w := by
  have h := info77
  cases hj : Tryz.prog.info? 77 with
  | none => rw [hj] at h; cases h
  | some j =>
    rw [hj] at h
    have hs : j.size = 7 := by simpa using h
    exact run_eql_ptr_other w Tryz.underlying61 hj (by omega) (fun e => hne (by injection e)) ha hb
section
variable {c m : Nat} {Mo : Int → Mem} {L : Nat → Option (Int × Nat)} {F G : List Nat} {P : List Str}
theorem wf_cut {C : St} (h : WF P C) (i : Int) (ks : List Int) : WF P (cutK C i ks) := h.filter (cutK_zero h.tree ks) (cutK_up h.tree ks)
theorem len_cut (C : St) (i : Int) (ks : List Int) : (cutK C i ks).length ≤ C.length := List.length_filter_le _ _
theorem abort_zero (C : St) : abortP C 0 = C := by unfold abortP; rw [if_pos (.inl rfl)]
theorem abort_none {C : St} {i : Int} (h : has C i = false) : abortP C i = C := by unfold abortP; rw [if_pos (.inr h)]
set_option maxRecDepth 100000 in
set_option maxHeartbeats 3200000 in
theorem abort_step {C : St} {i : Int} (IH : ∀ {w : World} {D : St} {k : Int}, pos D k < pos C i → RepM w c m Mo L F G D → WF P D → D.length ≤ 1000000 → I64 k →
      Calls Tryz.prog 36 #[.pointer (some ⟨c, 0, none⟩), .int .i64 k] w fun e w' => e = .returned (.tuple #[]) ∧ RepM w' c m Mo L F G (abortP D k) ∧ Keeps F w w')
    {w : World} (h : RepM w c m Mo L F G C) (hW : WF P C) (hl : C.length ≤ 1000000) (hi : I64 i) :
    Calls Tryz.prog 36 #[.pointer (some ⟨c, 0, none⟩), .int .i64 i] w fun e w' => e = .returned (.tuple #[]) ∧ RepM w' c m Mo L F G (abortP C i) ∧ Keeps F w w' := by
  have f0 : w.cell? ⟨c, 0, none⟩ = some (.map (some m)) := h.cb.cell 0
  have l0 := h.look hi.1 hi.2
  cases hh : has C i with
  | false =>
    rw [abort_none hh]
    simp only [hh] at l0
    have l0' : (Instr.lookup 63 (.map (some m)) (.int .i64 i) false).run Tryz.prog w = .ok (.pointer none) w := l0
    have HR := Lib.hid h
    clear h l0 hh hi IH
    go_enter Tryz.func36, Tryz.ntmps36
    go_wp2_with fail
    refine bodyPost_ret (results_none rfl _ _ _) rfl ?_
    exact ⟨rfl, HR.out, Keeps.refl _ _⟩
  | true =>
    obtain ⟨x, hx⟩ := has_find hh
    obtain ⟨hxC, hxi⟩ := find_mem hx
    obtain ⟨o, hlab⟩ := h.at_ hx
    simp only [hh, if_true] at l0
    have l0' : (Instr.lookup 63 (.map (some m)) (.int .i64 i) false).run Tryz.prog w = .ok (.pointer (some ⟨(Mo i).b, 0, none⟩)) w := l0
    have g0 : w.cell? ⟨(Mo i).b, 0, none⟩ = some (pv (parOf Mo x)) := o.b.cell 0
    by_cases h0 : i = 0
    · subst h0
      rw [abort_zero]
      have hpp : parOf Mo x = none := parOf_iff.2 hxi
      rw [hpp] at g0
      have g0' : w.cell? ⟨(Mo 0).b, 0, none⟩ = some (.pointer none) := g0
      have HR := Lib.hid h
      clear h l0 hh hi IH g0 o hlab hpp hxi hx hW
      go_enter Tryz.func36, Tryz.ntmps36
      go_wp2_with fail
      refine bodyPost_ret (results_none rfl _ _ _) rfl ?_
      exact ⟨rfl, HR.out, Keeps.refl _ _⟩
    · have hpp : parOf Mo x = some (Mo x.par).b := by unfold parOf; rw [if_neg (by rw [hxi]; exact h0)]
      rw [hpp] at g0
      have g0' : w.cell? ⟨(Mo i).b, 0, none⟩ = some (.pointer (some ⟨(Mo x.par).b, 0, none⟩)) := g0
      have hlive := live_any ⟨m, Mo, L, h⟩ hW hl
      have HR := Lib.hid h
      have HW := Lib.hid hW
      have HX := Lib.hid hx
      have HIH := Lib.hid (fun (w : World) (D : St) (k : Int) => @IH w D k)
      have HHH := Lib.hid hh
      clear h l0 hh IH g0 o hlab hpp hxi hx hW hxC
      go_enter Tryz.func36, Tryz.ntmps36
      go_wp2_with fail
      refine hlive.mono ?_
      rintro e w2 ⟨v, rfl, o2, k2, g2⟩
      obtain ⟨A, cap, rfl, hcap, hmax, hA⟩ := own_shape o2
      have O2 := Lib.hid o2
      have K2 := Lib.hid k2
      have G2 := Lib.hid g2
      have R2 := Lib.hid (HR.out.keep0 k2)
      have HA := Lib.hid hA
      have hws : w.heap.size ≤ w2.heap.size := k2.size
      have hll := live_len (C := C)
      clear o2 k2 g2 hlive hcap hmax hA
      obtain ⟨n, hn⟩ : ∃ n, (liveP C).length = n := ⟨_, rfl⟩
      have hn2 : n ≤ 1000000 := by omega
      rw [hn] at O2 HA ⊢
      rw [hn] at G2
      have HN := Lib.hid hn
      clear hn hll
      go_wp2_with fail
      go_loopw [26] (fun jv wr => ∃ j : Nat, j ≤ n ∧ jv = .int .i64 j ∧ RepM wr c m Mo L F G (cutK C i ((liveP C).take j)) ∧ Keeps F w2 wr) (fun jv _ => n - (intOf jv).toNat)
      case atStart => exact ⟨0, by omega, rfl, by rw [List.take_zero, cutK_nil]; exact R2.out, Keeps.refl _ _⟩
      case round =>
        obtain ⟨j, hj, rfl, hr, kp⟩ := hrel
        have HRj := Lib.hid hr
        have KP := Lib.hid kp
        have i0 : (0 : Int) ≤ (j : Int) := by omega
        have f0' : wr.cell? ⟨c, 0, none⟩ = some (.map (some m)) := hr.cb.cell 0
        have hrow : Hid (wr.ownsRow 0 3 1 (.slice A n cap) n (zs (liveP C))) := Lib.hid (own_keep O2.out kp (fun g hg hgF => by have := G2.out g hg; have := HR.out.ltF g hgF; omega))
        clear hr kp
        by_cases hlt : j < n
        · have hjl : j < (liveP C).length := by rw [HN.out]; exact hlt
          obtain ⟨g, hAg⟩ := HA.out (by omega)
          subst hAg
          have i1 : (j : Int) < (n : Int) := by omega
          have c1 : wr.cell? ⟨g, j, none⟩ = some (.int .i64 (liveP C)[j]) := own_cell hrow.out (by simp [zs, hjl])
          have hk := (live_ok HW.out.tree).2 (liveP C)[j]
          obtain ⟨hk0, hkh⟩ := hk.1 (List.getElem_mem hjl)
          have hknew : (liveP C)[j] ∉ (liveP C).take j := by
            intro hm
            obtain ⟨a, ha, e⟩ := List.getElem_of_mem hm
            have hasc := List.pairwise_iff_getElem.1 (live_ok HW.out.tree).1
            rw [List.length_take] at ha
            rw [List.getElem_take] at e
            have := hasc a j (by omega) hjl (by omega)
            omega
          have htk : (liveP C).take (j + 1) = (liveP C).take j ++ [(liveP C)[j]] := List.take_succ_eq_append_getElem hjl
          have hk64 : I64 (liveP C)[j] := by
            obtain ⟨z, hz, e⟩ := has_iff.1 hkh
            have := HW.out.ok z hz
            rw [← e]
            exact ⟨this.id1, this.id2⟩
          have HTK := Lib.hid htk
          have HKN := Lib.hid hknew
          generalize (liveP C)[j] = k at c1 hk0 hkh HKN HTK hk64
          have l1 := HRj.out.look hk64.1 hk64.2
          clear hk htk hknew hkh
          cases hkc : has (cutK C i ((liveP C).take j)) k with
          | false =>
            have e1 : cutK C i ((liveP C).take (j + 1)) = cutK C i ((liveP C).take j) := by
              rw [HTK.out]
              refine cutK_skip _ ?_
              rw [Bool.eq_false_iff]
              intro hkid
              obtain ⟨z, hz, _⟩ := cutK_there HW.out.tree _ hkid HKN.out
              rw [← find_has, hz] at hkc
              cases hkc
            simp only [hkc] at l1
            have l1' : (Instr.lookup 63 (.map (some m)) (.int .i64 k) false).run Tryz.prog wr = .ok (.pointer none) wr := l1
            have E1 := Lib.hid e1
            clear l1 e1 hkc
            go_wp2_with fail
            exact ⟨⟨j + 1, by omega, rfl, by rw [E1.out]; exact HRj.out, KP.out⟩, by simp only [intOf]; omega⟩
          | true =>
            obtain ⟨z, hz⟩ := has_find hkc
            obtain ⟨hzC, hzk⟩ := find_mem hz
            simp only [hkc, if_true] at l1
            have l1' : (Instr.lookup 63 (.map (some m)) (.int .i64 k) false).run Tryz.prog wr = .ok (.pointer (some ⟨(Mo k).b, 0, none⟩)) wr := l1
            have gz : wr.cell? ⟨(Mo k).b, 0, none⟩ = some (pv (parOf Mo z)) := (HRj.out.at_ hz).1.b.cell 0
            have hppz : parOf Mo z = some (Mo z.par).b := by unfold parOf; rw [if_neg (by rw [hzk]; exact hk0)]
            rw [hppz] at gz
            have gz' : wr.cell? ⟨(Mo k).b, 0, none⟩ = some (.pointer (some ⟨(Mo z.par).b, 0, none⟩)) := gz
            by_cases hzp : z.par = i
            · have hkid := cutK_kid HW.out.tree _ hz hk0 hzp
              have hcall := HIH.out wr _ k (pos_cutK HW.out.tree _ hkid HKN.out) HRj.out (wf_cut HW.out i _) (Nat.le_trans (len_cut C i _) hl) hk64
              rw [cutK_step HW.out.tree _ hkid HKN.out, ← HTK.out] at hcall
              rw [hzp] at gz'
              have hq := ptr_same wr (Mo i).b
              clear l1 gz hkc hppz hzp hkid hz hzk
              go_wp2_with fail
              refine hcall.mono ?_
              rintro e w5 ⟨rfl, r5, k5⟩
              have R5 := Lib.hid r5
              have K5 := Lib.hid (KP.out.trans k5 (fun g hg => .inl hg))
              clear r5 k5 hcall
              go_wp2_with fail
              exact ⟨⟨j + 1, by omega, rfl, R5.out, K5.out⟩, by simp only [intOf]; omega⟩
            · have e1 : cutK C i ((liveP C).take (j + 1)) = cutK C i ((liveP C).take j) := by
                rw [HTK.out]
                refine cutK_skip _ ?_
                rw [Bool.eq_false_iff]
                intro hkid
                obtain ⟨z', hz', hp'⟩ := cutK_there HW.out.tree _ hkid HKN.out
                rw [hz] at hz'
                injection hz' with hz'
                rw [← hz'] at hp'
                exact hzp hp'
              have hq : (binOp .eql 61 (.pointer (some ⟨(Mo z.par).b, 0, none⟩)) (.pointer (some ⟨(Mo i).b, 0, none⟩))).run Tryz.prog wr = .ok (.bool false) wr := by
                have hTj := (wf_cut HW.out i ((liveP C).take j)).tree
                obtain ⟨y, hy⟩ := has_find (hTj.par hzC (by rw [hzk]; exact hk0))
                have hi2 := cutK_self HW.out.tree ((liveP C).take j) HX.out
                exact ptr_other (labNe (HRj.out.at_ hy).2.b (HRj.out.at_ hi2).2.b (fun e => by injection e with e _; exact hzp e)) (HRj.out.at_ hy).1.b (HRj.out.at_ hi2).1.b
              have E1 := Lib.hid e1
              clear l1 gz hkc hppz hzp e1 hz hzk
              go_wp2_with fail
              exact ⟨⟨j + 1, by omega, rfl, by rw [E1.out]; exact HRj.out, KP.out⟩, by simp only [intOf]; omega⟩
        · obtain rfl : j = n := by omega
          have i1 : ¬ ((j : Int) < (j : Int)) := by omega
          have e2 : (liveP C).take j = liveP C := List.take_of_length_le (by rw [HN.out]; exact Nat.le_refl _)
          rw [e2] at HRj
          have hx2 := cutK_self HW.out.tree (liveP C) HX.out
          have hdrop := drop_any HRj.out (wf_cut HW.out i _).tree (Nat.le_trans (len_cut C i _) hl) hi hx2 h0
          have e3 : dropP (cutK C i (liveP C)) i = abortP C i := cutK_end HW.out.tree HHH.out h0 (fun k hk => by
            obtain ⟨z, h1, h2, _⟩ := isKid_iff.1 hk
            exact ((live_ok HW.out.tree).2 k).2 ⟨h2, by rw [← find_has, h1]; rfl⟩)
          rw [e3] at hdrop
          have HBF : Hid (∀ g ∈ [(Mo x.par).b, m], g ∈ F) := Lib.hid (fun g hg => by
            simp only [List.mem_cons, List.not_mem_nil, or_false] at hg
            rcases hg with rfl | rfl
            · obtain ⟨hxC, hxi⟩ := find_mem HX.out
              obtain ⟨y, hy⟩ := has_find (HW.out.tree.par hxC (by rw [hxi]; exact h0))
              exact HR.out.blkFi hy (by simp [Mem.blocks])
            · exact HR.out.mF)
          clear e2 e3 hx2
          go_wp2_with fail
          refine hdrop.mono ?_
          rintro e w5 ⟨rfl, r5, k5⟩
          have R5 := Lib.hid r5
          have K5 : Hid (Keeps F w w5) := Lib.hid (((K2.out.mono (by simp)).trans KP.out (fun g hg => .inl hg)).trans k5 (fun g hg => .inl (HBF.out g hg)))
          clear r5 k5 hdrop
          go_wp2_with fail
          go_end0
          exact ⟨rfl, R5.out, K5.out⟩
theorem abort_any {w : World} {C : St} {i : Int} (h : RepM w c m Mo L F G C) (hW : WF P C) (hl : C.length ≤ 1000000) (hi : I64 i) :
    Calls Tryz.prog 36 #[.pointer (some ⟨c, 0, none⟩), .int .i64 i] w fun e w' => e = .returned (.tuple #[]) ∧ RepM w' c m Mo L F G (abortP C i) ∧ Keeps F w w' := by
  obtain ⟨n, hn⟩ : ∃ n, pos C i = n := ⟨_, rfl⟩
  induction n using Nat.strongRecOn generalizing w C i with
  | ind n ih => exact abort_step (fun hlt h hW hl hi => ih _ (by rw [← hn]; exact hlt) h hW hl hi rfl) h hW hl hi
end
theorem abortOp_any {w : World} {c : Nat} {F G : List Nat} {C : St} {P : List Str} (h : Cs w c F G C) (hW : WF P C) (hl : C.length ≤ 1000000) {i : Int} (hi : I64 i) :
    Calls Tryz.prog 36 #[.pointer (some ⟨c, 0, none⟩), .int .i64 i] w fun e w' => e = .returned (.tuple #[]) ∧ Turned w w' c F G (abortP C i) := by
  obtain ⟨m, Mo, L, h⟩ := h
  refine (abort_any h hW hl hi).mono ?_
  rintro e w' ⟨rfl, h1, h2⟩
  exact ⟨rfl, Turned.same ⟨m, Mo, L, h1⟩ h2⟩
end Go.Proofs.YtbllmpcpfmlemaaGreat
namespace Go.Proofs.YtbllmpcpfmlemaaGreat
open Go.RowKit
set_option maxRecDepth 100000 in
set_option maxHeartbeats 3200000 in
theorem equalS_any (w : World) (A B : Option Addr) (l m : List Str) (c d : Nat) (ha : AtS w A l) (hb : AtS w B m) :
    Calls Tryz.prog 57 #[.slice A l.length c, .slice B m.length d] w fun e w' => e = .returned (.bool (decide (l = m))) ∧ Keeps [] w w' := by
  have h1 := ha.mx
  have h2 := hb.mx
  have HA := Lib.hid ha
  have HB := Lib.hid hb
  obtain ⟨V, hV⟩ : ∃ V, decide (l = m) = V := ⟨_, rfl⟩
  rw [hV]
  have HV := Lib.hid hV
  clear ha hb hV
  by_cases hl : l.length = m.length
  · have HL := Lib.hid hl
    rw [← hl]
    clear hl
    go_enter Tryz.func57, Tryz.ntmps57
    go_wp2_with fail
    go_loopw [13] (fun iv wr => ∃ k : Nat, k ≤ l.length ∧ iv = .int .i64 k ∧ (∀ j (h1 : j < l.length) (h2 : j < m.length), j < k → l[j] = m[j]) ∧ Keeps [] w wr) (fun iv _ => l.length - (intOf iv).toNat)
    case atStart => exact ⟨0, by omega, rfl, fun j _ _ h => absurd h (by omega), Keeps.refl _ _⟩
    case round =>
      obtain ⟨k, hk, rfl, hall, kp⟩ := hrel
      have HALL := Lib.hid hall
      have KP := Lib.hid kp
      have HA2 := Lib.hid (HA.out.keep kp)
      have HB2 := Lib.hid (HB.out.keep kp)
      clear hall kp
      by_cases hlt : k < l.length
      · have hlm : k < m.length := by have := HL.out; omega
        obtain ⟨ab, ao, hAA, hab, hac⟩ := HA2.out.at_ (by omega)
        obtain ⟨bb, bo, hBB, hbb, hbc⟩ := HB2.out.at_ (by omega)
        subst hAA
        subst hBB
        have c0 := hac k hlt
        have c1 := hbc k hlm
        have i0 : (0 : Int) ≤ (k : Int) := by omega
        have i1 : (k : Int) < (l.length : Int) := by omega
        by_cases he : l[k] = m[k]
        · have HN : Hid (∀ j (h1 : j < l.length) (h2 : j < m.length), j < k + 1 → l[j] = m[j]) := Lib.hid (fun j h1 h2 h => by
            by_cases hj : j < k
            · exact HALL.out j h1 h2 hj
            · obtain rfl : j = k := by omega
              exact he)
          rw [← he] at c1
          generalize l[k] = y at c0 c1
          clear hac hbc he HALL
          go_upto_region 6 with fail
          go_quiet (fail)
          have KN : Hid (Keeps [] w (wr.drewN nq)) := Lib.hid (KP.out.drewN nq)
          clear KP
          go_wp2_with fail
          exact ⟨⟨k + 1, by omega, rfl, HN.out, KN.out⟩, by simp only [intOf]; omega⟩
        · have hV : V = false := by
            rw [← HV.out]
            exact decide_eq_false (fun e => he (by subst e; rfl))
          have HVF := Lib.hid hV
          have hne : (l[k] == m[k]) = false := by simpa using he
          generalize l[k] = y at c0 hne
          generalize m[k] = z at c1 hne
          clear hac hbc he HALL hV
          go_upto_region 6 with fail
          go_quiet (fail)
          have KN : Hid (Keeps [] w (wr.drewN nq)) := Lib.hid (KP.out.drewN nq)
          clear KP
          go_wp2_with fail
          go_ret
          exact ⟨ret_bool HVF.out.symm, KN.out⟩
      · obtain rfl : k = l.length := by omega
        have i1 : ¬ ((l.length : Int) < (l.length : Int)) := by omega
        have hV : V = true := by
          rw [← HV.out]
          refine decide_eq_true (List.ext_getElem HL.out (fun j h1 h2 => HALL.out j h1 h2 h1))
        have HVT := Lib.hid hV
        clear HALL hV
        go_wp2_with fail
        go_ret
        exact ⟨ret_bool HVT.out.symm, KP.out⟩
  · have hV : V = false := by
      rw [← HV.out]
      exact decide_eq_false (fun e => hl (by rw [e]))
    have HVF := Lib.hid hV
    have hne : ((l.length : Int) == (m.length : Int)) = false := by simp; omega
    have hne2 : ¬ ((l.length : Int) = (m.length : Int)) := by omega
    clear hV
    go_enter Tryz.func57, Tryz.ntmps57
    go_wp2_with fail
    go_ret
    exact ⟨ret_bool HVF.out.symm, Keeps.refl _ _⟩
end Go.Proofs.YtbllmpcpfmlemaaGreat
