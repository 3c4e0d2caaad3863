/- The walk of made. -/
import Derived.Test.YteognipfnbocpaaGreatQ14
namespace Go.Proofs.YteognipfnbocpaaGreat
open Go.RowKit
open T12 (E TbRep RfRep ent ents cells5 mapM mapN wlkM wlkB wlkN unmM clrM clrB lookX)
open T13 (Tl En TlRep es Nd)

theorem run_take30 (A : Option Addr) (n c i : Nat) (hi : i ≤ n) (hc : n ≤ c) (W : World) : (Instr.slice 30 (.slice A n c) none (some (.int .i64 i)) none).run Tryz.prog W = .ok (.slice A i c) W := by
  have hp : (i : Int) ≤ c := by omega
  have h0 : (0 : Int) ≤ i := by omega
  go_simp
theorem run_drop30 (A : Option Addr) (n c i : Nat) (hi : i ≤ n) (W : World) : (Instr.slice 30 (.slice A n c) (some (.int .i64 i)) none none).run Tryz.prog W = .ok (.slice (if c = i then A else A.map (·.add (i * 1))) (n - i) (c - i)) W := by
  have hp : (i : Int) ≤ n := by omega
  have h0 : (0 : Int) ≤ i := by omega
  go_simp
theorem run_take36 (A : Option Addr) (n c i : Nat) (hi : i ≤ n) (hc : n ≤ c) (W : World) : (Instr.slice 36 (.slice A n c) none (some (.int .i64 i)) none).run Tryz.prog W = .ok (.slice A i c) W := by
  have hp : (i : Int) ≤ c := by omega
  have h0 : (0 : Int) ≤ i := by omega
  go_simp
theorem run_drop36 (A : Option Addr) (n c i : Nat) (hi : i ≤ n) (W : World) : (Instr.slice 36 (.slice A n c) (some (.int .i64 i)) none none).run Tryz.prog W = .ok (.slice (if c = i then A else A.map (·.add (i * 1))) (n - i) (c - i)) W := by
  have hp : (i : Int) ≤ n := by omega
  have h0 : (0 : Int) ≤ i := by omega
  go_simp
/-- The first cells of a row read. -/
theorem reads_take {w : World} {e n c i : Nat} {A : Option Addr} {xs : List Value} (h : w.ownsRow 0 e 1 (.slice A n c) n xs) (hi : i ≤ n) : Reads w w.heap.size 1 A i (xs.take i) := by
  have hr := reads_own h
  refine ⟨by rw [List.length_take, hr.1]; omega, fun h0 => ?_⟩
  obtain ⟨ad, e1, e2, e3⟩ := hr.2 (by omega)
  exact ⟨ad, e1, e2, fun j u hu => e3 j u (by rw [List.getElem?_take] at hu; split at hu; exact hu; cases hu)⟩
theorem reads_drop {w : World} {e n c i : Nat} {A : Option Addr} {xs : List Value} (h : w.ownsRow 0 e 1 (.slice A n c) n xs) (hi : i ≤ n) (hc : n ≤ c) : Reads w w.heap.size 1 (if c = i then A else A.map (·.add (i * 1))) (n - i) (xs.drop i) := by
  have := (reads_own h).cut hi hc
  rwa [Nat.mul_one] at this ⊢
def MadeP (w : World) (F : List Nat) (p : Nat) (r : Rm) (x : Int) (e : Ending) (w' : World) : Prop := ∃ q r', e = .returned (.pointer (some ⟨q, 0, none⟩)) ∧ RFocN w F w' p r' x q (r.tab x) ∧ MadeS r x r'
theorem iv_one (l : List Int) : ∀ u ∈ iv l, u.oneCell' = true := by
  intro u hu
  unfold iv at hu
  obtain ⟨y, _, rfl⟩ := List.mem_map.1 hu
  rfl
theorem pv_one (l : List Nat) : ∀ u ∈ l.map pv, u.oneCell' = true := by
  intro u hu
  obtain ⟨y, _, rfl⟩ := List.mem_map.1 hu
  rfl
set_option maxRecDepth 100000 in
set_option maxHeartbeats 6400000 in
theorem rmade_any (w : World) (F : List Nat) (p : Nat) (r : Rm) (h : RmRep w F p r) (ha : Asc r.N) (hn : r.N.length ≤ 100000) (x : Int) :
    Calls Tryz.prog 62 #[.pointer (some ⟨p, 0, none⟩), .int .i64 x] w (MadeP w F p r x) := by
  obtain ⟨L, A1, A2, A3, c1, c2, c3, qs, cs, h⟩ := h
  have k0 := h.bp.cell 0
  have k1 := h.bp.cell 1
  have hpl := h.bp.lt
  obtain ⟨_, _, hv, hc1, -, hA⟩ := own_shape h.o1
  obtain ⟨rfl, -, rfl⟩ : A1 = _ ∧ r.N.length = _ ∧ c1 = _ := by injection hv with h1 h2 h3; exact ⟨h1, rfl, h3⟩
  clear hv
  obtain ⟨_, _, hv, hc2, -, hB⟩ := own_shape h.o2
  obtain ⟨rfl, -, rfl⟩ : A2 = _ ∧ r.M.length = _ ∧ c2 = _ := by injection hv with h1 h2 h3; exact ⟨h1, rfl, h3⟩
  clear hv
  have HH := Lib.hid h
  have HA := Lib.hid ha
  have HNM := Lib.hid h.nm
  clear h ha
  go_enter Tryz.func62, Tryz.ntmps62
  go_wp2_with fail
  go_loop [5] (fun i => ∃ k : Nat, k ≤ r.N.length ∧ i = .int .i64 k ∧ ∀ j (hj : j < r.N.length), j < k → r.N[j] < x) (fun i => r.N.length - (intOf i).toNat)
  case atStart => exact ⟨0, by omega, rfl, fun _ _ h => absurd h (by omega)⟩
  case round =>
    obtain ⟨k, hk, rfl, hst⟩ := hrel
    have HST := Lib.hid hst
    clear hst
    by_cases hlt : k < r.N.length
    · obtain ⟨g, hg⟩ := hA (by omega)
      have y0 := own_cell (by have := HH.out.o1; rw [hg] at this; exact this) (j := k) (u := .int .i64 r.N[k]) (by unfold iv; rw [List.getElem?_map, List.getElem?_eq_getElem hlt]; rfl)
      by_cases h1 : r.N[k] < x
      · subst hg
        have HE := Lib.hid h1
        go_wp2_with fail
        go_round
        case rel =>
          refine ⟨k + 1, by omega, by go_num, fun j hj hjk => ?_⟩
          by_cases e : j = k
          · subst e; exact HE.out
          · exact HST.out j hj (by omega)
        case measure => simp [intOf]; omega
      · by_cases h2 : r.N[k] = x
        · subst hg
          have hM : k < r.M.length := by rw [← HNM.out]; exact hlt
          obtain ⟨g2, rfl⟩ := hB (by omega)
          obtain ⟨G, q, hq, ht, hgG⟩ := HH.out.ts k r.M[k] (List.getElem?_eq_getElem hM)
          have y1 := own_cell HH.out.o2 (j := k) (u := .pointer (some ⟨q, 0, none⟩)) (by rw [List.getElem?_map, hq]; rfl)
          have hix : r.ix x = some k := by rw [← h2]; exact ix_self HA.out hlt
          have htab : r.tab x = r.M[k] := by rw [← h2]; exact tab_self HA.out hlt (List.getElem?_eq_getElem hM)
          have HR := Lib.hid (And.intro hix (And.intro htab (And.intro hq (And.intro ht hgG))))
          have e2 : (r.N[k] == x) = true := by simpa using h2
          have hlx : ¬ x < x := by omega
          rw [h2] at y0
          clear hix htab hq ht hgG h1 h2 e2
          go_wp2_with fail
          go_ret
          refine ⟨q, r, rfl, ?_, MadeS.old HA.out HNM.out HR.out.1⟩
          rw [HR.out.2.1]
          exact ⟨F, G, ⟨L, _, _, A3, _, _, c3, qs, cs, HH.out, HR.out.2.2.2.1, .inl ⟨k, HR.out.1, List.getElem?_eq_getElem hM, HR.out.2.2.1, HR.out.2.2.2.2⟩⟩, Keeps.refl _ _, fun g hg => .inl hg, fun g hg => .inl (HH.out.inF _ _ (HR.out.2.2.2.2 g hg))⟩
        · have h3 : x < r.N[k] := by omega
          have e2 : (r.N[k] == x) = false := by simpa using h2
          have e3 : decide (r.N[k] < x) = false := decide_eq_false h1
          have HGE : Hid (∀ j (hj : j < r.N.length), k ≤ j → x < r.N[j]) := Lib.hid (fun j hj hkj => by
            rcases Nat.lt_or_ge k j with h4 | h4
            · have := List.pairwise_iff_getElem.1 HA.out k j hlt hj h4; omega
            · obtain rfl : j = k := by omega
              exact h3)
          have e4 : ¬ r.N[k] = x := h2
          subst hg
          clear h1 h2
          obtain ⟨hMS, hMI, hMT⟩ := MadeS.new (x := x) HA.out HNM.out hk HST.out HGE.out
          have HMS := Lib.hid (And.intro hMS (And.intro hMI hMT))
          clear hMS hMI hMT
          have hk2 : k ≤ r.M.length := by rw [← HNM.out]; exact hk
          have hn2 : r.M.length ≤ 1000000 := by rw [← HNM.out]; omega
          go_wp2_with fail
          go_upto_region 7 with fail
          have K1 : Keeps [] w (w.alloc (.cells #[.slice none 0 0] 77)) := (Keeps.refl _ _).alloc _
          have T1 := RfRep.fresh w
          have z1 : (w.alloc (.cells #[.slice none 0 0] 77)).heap.size = w.heap.size + 1 := by simp
          obtain ⟨W1, hW1⟩ : ∃ W1, w.alloc (.cells #[.slice none 0 0] 77) = W1 := ⟨_, rfl⟩
          obtain ⟨q, hq⟩ : ∃ q, w.heap.size = q := ⟨_, rfl⟩
          rw [hW1] at K1 T1 z1 ⊢
          rw [hq] at T1 ⊢
          clear hW1
          have H1 := HH.out.keep K1 (by simp)
          refine mreg7_any W1 p x r.N.length k c1 (some ⟨g, 0, none⟩) _ (iv (r.N.take k)) (iv (r.N.drop k)) _ hk hc1 (by omega) (r.N.length + 1) (by omega)
            (fun W kW => (H1.keep kW (by simp)).bp.cell 0) (fun W kW => (H1.keep kW (by simp)).bp.frozen 0) (fun W => run_take30 (some ⟨g, 0, none⟩) _ c1 k hk hc1 W) (fun W => run_drop30 (some ⟨g, 0, none⟩) _ c1 k hk W)
            (fun W kW => by have := reads_take (H1.keep kW (by simp)).o1 hk; unfold iv at this ⊢; rwa [List.map_take]) (fun W kW => by have := reads_drop (H1.keep kW (by simp)).o1 hk hc1; unfold iv at this ⊢; rwa [List.map_drop])
            (iv_one _) (iv_one _) _ _ _ _ _ _ _ _ _ _ _ _ _ _ _ _ _ _ _ _ _ _ _ _ _ _ _ _ _ _ _ _ _ _ _ _ _ _ _ _ _ _ _ _ _ _ _ _ _ _ _ _ _ _ _ _ _ _ _ _ _ _ _ _ _ _ _ _ _ _ _ _ _ _ _ _ _ _ _ _ _ _ _ _ _ _ _ _ _ _ _ _ _ _ ?_
          intro v54 v55 v56 v57 v58 v59 v60 v61 v62 v63 v64 v65 v66 v67 v68 v69 v70 v71 v72 v73 v74 v3 W2 o3 k3 f3
          obtain ⟨A1', c1', rfl, -, -, -⟩ := own_shape o3
          have H2 := H1.keep k3 (by simp)
          have e3 : ([] ++ iv (r.N.take k)) ++ [Value.int .i64 x] ++ iv (r.N.drop k) = iv (r.N.take k ++ x :: r.N.drop k) := by simp [iv]
          rw [e3] at o3
          have hpo : p ∉ fp (.slice A1' (r.N.length + 1) c1') := fun hp => by have := f3 p hp; omega
          have o3' := own_far (p := ⟨p, 0, none⟩) o3 hpo (.slice A1' (r.N.length + 1) c1')
          have b3 : Blk _ p 39 #[.slice A1' (r.N.length + 1) c1', .slice A2 r.M.length c2, .slice A3 r.C.length c3, .int .i64 r.n] := H2.bp.set_ 0 (.slice A1' (r.N.length + 1) c1')
          have p2 : p ∉ fp (.slice A2 r.M.length c2) := own_blk_off H2.o2 H2.bp (by decide)
          have o2' := own_far (p := ⟨p, 0, none⟩) H2.o2 p2 (.slice A1' (r.N.length + 1) c1')
          have K3 : Keeps [p] W1 (W2.setCell ⟨p, 0, none⟩ (.slice A1' (r.N.length + 1) c1')) := (k3.mono (by simp)).setCell (.inl (by simp)) _
          obtain ⟨W3, hW3⟩ : ∃ W3, W2.setCell ⟨p, 0, none⟩ (.slice A1' (r.N.length + 1) c1') = W3 := ⟨_, rfl⟩
          rw [hW3] at o3' b3 o2' K3 ⊢
          have hs3 : W1.heap.size ≤ W3.heap.size := K3.size
          have HF := Lib.hid (And.intro H1 (And.intro T1 (And.intro K1 (And.intro o3' (And.intro b3 (And.intro o2' (And.intro K3 (And.intro f3 (And.intro hq z1)))))))))
          clear H1 T1 H2 e3 o3 o3' b3 o2' K3 hW3 k3 f3 hpo p2 K1 hq z1
          go_wp2_with fail
          go_upto_region 8 with fail
          obtain ⟨H1, T1, K1, o3', b3, o2', K3, f3, hq, z1⟩ := HF.out
          refine mreg8_any W3 p q r.M.length k c2 A2 _ ((qs.take k).map pv) ((qs.drop k).map pv) _ hk2 hc2 (by omega) (r.M.length + 1) (by omega)
            (fun W kW => (b3.keep kW (by simp)).cell 1) (fun W kW => (b3.keep kW (by simp)).frozen 1) (fun W => run_take36 A2 _ c2 k hk2 hc2 W) (fun W => run_drop36 A2 _ c2 k hk2 W)
            (fun W kW => by have := reads_take (own_keep o2' kW (by simp)) hk2; rwa [← List.map_take] at this) (fun W kW => by have := reads_drop (own_keep o2' kW (by simp)) hk2 hc2; rwa [← List.map_drop] at this)
            (pv_one _) (pv_one _) _ _ _ _ _ _ _ _ _ _ _ _ _ _ _ _ _ _ _ _ _ _ _ _ _ _ _ _ _ _ _ _ _ _ _ _ _ _ _ _ _ _ _ _ _ _ _ _ _ _ _ _ _ _ _ _ _ _ _ _ _ _ _ _ _ _ _ _ _ _ _ _ _ _ _ _ _ _ _ _ _ _ _ _ _ _ _ _ _ _ _ _ _ _ ?_
          intro v75 v76 v77 v78 v79 v80 v81 v82 v83 v84 v85 v86 v87 v88 v89 v90 v91 v92 v93 v94 v95 v4 W4 o4 k4 f4
          obtain ⟨A2', c2', rfl, -, -, -⟩ := own_shape o4
          have e4 : ([] ++ (qs.take k).map pv) ++ [Value.pointer (some ⟨q, 0, none⟩)] ++ (qs.drop k).map pv = (qs.take k ++ q :: qs.drop k).map pv := by simp [pv]
          rw [e4] at o4
          have hpo1 : p ∉ fp (.slice A1' (r.N.length + 1) c1') := fun hp => by have := f3 p hp; omega
          have hpo2 : p ∉ fp (.slice A2' (r.M.length + 1) c2') := fun hp => by have := f4 p hp; omega
          have bF : Blk _ p 39 #[.slice A1' (r.N.length + 1) c1', .slice A2' (r.M.length + 1) c2', .slice A3 r.C.length c3, .int .i64 r.n] := (b3.keep k4 (by simp)).set_ 1 (.slice A2' (r.M.length + 1) c2')
          have oF1 := own_far (p := ⟨p, 1, none⟩) (own_keep o3' k4 (by simp)) hpo1 (.slice A2' (r.M.length + 1) c2')
          have oF2 := own_far (p := ⟨p, 1, none⟩) o4 hpo2 (.slice A2' (r.M.length + 1) c2')
          have KF1 : Keeps [p] W1 (W4.setCell ⟨p, 1, none⟩ (.slice A2' (r.M.length + 1) c2')) := (K3.trans k4 (by simp)).setCell (.inl (by simp)) _
          have KF : Keeps [p] w (W4.setCell ⟨p, 1, none⟩ (.slice A2' (r.M.length + 1) c2')) := (K1.mono (by simp)).trans KF1 (fun g hg => .inl hg)
          have hqp : q ∉ [p] := fun hp => by have := List.mem_singleton.1 hp; omega
          have TF := T1.keep KF1 (fun g hg => by rw [List.mem_singleton.1 hg]; exact hqp)
          have hq1 : q ∉ fp (.slice A1' (r.N.length + 1) c1') := fun hp => by have := f3 q hp; omega
          have hq2 : q ∉ fp (.slice A2' (r.M.length + 1) c2') := fun hp => by have := f4 q hp; omega
          have HR := Lib.hid (HH.out.ins (x := x) (q := q) (i := k) hk bF oF1 oF2 KF TF (by omega) (fun g hg => by have := f3 g hg; omega) (fun g hg => by have := f4 g hg; omega) hq1 hq2)
          have HK := Lib.hid (And.intro KF (And.intro TF (And.intro f3 (And.intro f4 (And.intro hs3 (And.intro z1 hq))))))
          have HMi := HMS.out.2.1
          have HMi2 := Lib.hid HMi
          clear H1 T1 K1 o3' b3 o2' K3 f3 o4 e4 hpo1 hpo2 bF oF1 oF2 KF1 KF TF hq1 hq2 k4 f4 HMi HF hs3 z1 hq hqp
          go_wp2_with fail
          go_ret
          obtain ⟨KF, TF, f3, f4, hs3, z1, hq⟩ := HK.out
          refine ⟨q, r.ins k x, rfl, ?_, HMS.out.1⟩
          have hqM : (qs.take k ++ q :: qs.drop k)[k]? = some q := by
            have hql : k ≤ qs.length := by rw [HH.out.qlen]; exact hk2
            rw [ins_at _ _ hql, if_neg (by omega), if_pos rfl]
          have hM : (r.ins k x).M[k]? = some (r.tab x) := by
            show (r.M.take k ++ pg0 :: r.M.drop k)[k]? = _
            rw [ins_at _ _ hk2, if_neg (by omega), if_pos rfl, HMS.out.2.2]
          rw [HMS.out.2.2] at hM ⊢
          refine ⟨_, [q], ⟨_, _, _, _, _, _, _, _, _, HR.out, TF, .inl ⟨k, HMi2.out, hM, hqM, fun g hg => ?_⟩⟩, KF.mono (fun g hg => by rw [List.mem_singleton.1 hg]; exact HH.out.inF _ _ HH.out.lp), fun g hg => ?_, fun g hg => ?_⟩
          · rw [List.mem_singleton.1 hg, if_pos rfl]
          · rcases List.mem_cons.1 hg with rfl | hg
            · right; omega
            · rcases List.mem_append.1 hg with hg | hg
              · right; have := f3 g hg; omega
              · rcases List.mem_append.1 hg with hg | hg
                · right; have := f4 g hg; omega
                · exact .inl hg
          · right; rw [List.mem_singleton.1 hg]; omega
    · have HGE : Hid (∀ j (hj : j < r.N.length), k ≤ j → x < r.N[j]) := Lib.hid (fun j hj hkj => absurd hj (by omega))
      have hge : r.N.length ≤ k := by omega
      obtain ⟨hMS, hMI, hMT⟩ := MadeS.new (x := x) HA.out HNM.out hk HST.out HGE.out
      have HMS := Lib.hid (And.intro hMS (And.intro hMI hMT))
      clear hMS hMI hMT
      have hk2 : k ≤ r.M.length := by rw [← HNM.out]; exact hk
      have hn2 : r.M.length ≤ 1000000 := by rw [← HNM.out]; omega
      go_wp2_with fail
      go_upto_region 7 with fail
      have K1 : Keeps [] w (w.alloc (.cells #[.slice none 0 0] 77)) := (Keeps.refl _ _).alloc _
      have T1 := RfRep.fresh w
      have z1 : (w.alloc (.cells #[.slice none 0 0] 77)).heap.size = w.heap.size + 1 := by simp
      obtain ⟨W1, hW1⟩ : ∃ W1, w.alloc (.cells #[.slice none 0 0] 77) = W1 := ⟨_, rfl⟩
      obtain ⟨q, hq⟩ : ∃ q, w.heap.size = q := ⟨_, rfl⟩
      rw [hW1] at K1 T1 z1 ⊢
      rw [hq] at T1 ⊢
      clear hW1
      have H1 := HH.out.keep K1 (by simp)
      refine mreg7_any W1 p x r.N.length k c1 A1 _ (iv (r.N.take k)) (iv (r.N.drop k)) _ hk hc1 (by omega) (r.N.length + 1) (by omega)
        (fun W kW => (H1.keep kW (by simp)).bp.cell 0) (fun W kW => (H1.keep kW (by simp)).bp.frozen 0) (fun W => run_take30 A1 _ c1 k hk hc1 W) (fun W => run_drop30 A1 _ c1 k hk W)
        (fun W kW => by have := reads_take (H1.keep kW (by simp)).o1 hk; unfold iv at this ⊢; rwa [List.map_take]) (fun W kW => by have := reads_drop (H1.keep kW (by simp)).o1 hk hc1; unfold iv at this ⊢; rwa [List.map_drop])
        (iv_one _) (iv_one _) _ _ _ _ _ _ _ _ _ _ _ _ _ _ _ _ _ _ _ _ _ _ _ _ _ _ _ _ _ _ _ _ _ _ _ _ _ _ _ _ _ _ _ _ _ _ _ _ _ _ _ _ _ _ _ _ _ _ _ _ _ _ _ _ _ _ _ _ _ _ _ _ _ _ _ _ _ _ _ _ _ _ _ _ _ _ _ _ _ _ _ _ _ _ ?_
      intro v54 v55 v56 v57 v58 v59 v60 v61 v62 v63 v64 v65 v66 v67 v68 v69 v70 v71 v72 v73 v74 v3 W2 o3 k3 f3
      obtain ⟨A1', c1', rfl, -, -, -⟩ := own_shape o3
      have H2 := H1.keep k3 (by simp)
      have e3 : ([] ++ iv (r.N.take k)) ++ [Value.int .i64 x] ++ iv (r.N.drop k) = iv (r.N.take k ++ x :: r.N.drop k) := by simp [iv]
      rw [e3] at o3
      have hpo : p ∉ fp (.slice A1' (r.N.length + 1) c1') := fun hp => by have := f3 p hp; omega
      have o3' := own_far (p := ⟨p, 0, none⟩) o3 hpo (.slice A1' (r.N.length + 1) c1')
      have b3 : Blk _ p 39 #[.slice A1' (r.N.length + 1) c1', .slice A2 r.M.length c2, .slice A3 r.C.length c3, .int .i64 r.n] := H2.bp.set_ 0 (.slice A1' (r.N.length + 1) c1')
      have p2 : p ∉ fp (.slice A2 r.M.length c2) := own_blk_off H2.o2 H2.bp (by decide)
      have o2' := own_far (p := ⟨p, 0, none⟩) H2.o2 p2 (.slice A1' (r.N.length + 1) c1')
      have K3 : Keeps [p] W1 (W2.setCell ⟨p, 0, none⟩ (.slice A1' (r.N.length + 1) c1')) := (k3.mono (by simp)).setCell (.inl (by simp)) _
      obtain ⟨W3, hW3⟩ : ∃ W3, W2.setCell ⟨p, 0, none⟩ (.slice A1' (r.N.length + 1) c1') = W3 := ⟨_, rfl⟩
      rw [hW3] at o3' b3 o2' K3 ⊢
      have hs3 : W1.heap.size ≤ W3.heap.size := K3.size
      have HF := Lib.hid (And.intro H1 (And.intro T1 (And.intro K1 (And.intro o3' (And.intro b3 (And.intro o2' (And.intro K3 (And.intro f3 (And.intro hq z1)))))))))
      clear H1 T1 H2 e3 o3 o3' b3 o2' K3 hW3 k3 f3 hpo p2 K1 hq z1
      go_wp2_with fail
      go_upto_region 8 with fail
      obtain ⟨H1, T1, K1, o3', b3, o2', K3, f3, hq, z1⟩ := HF.out
      refine mreg8_any W3 p q r.M.length k c2 A2 _ ((qs.take k).map pv) ((qs.drop k).map pv) _ hk2 hc2 (by omega) (r.M.length + 1) (by omega)
        (fun W kW => (b3.keep kW (by simp)).cell 1) (fun W kW => (b3.keep kW (by simp)).frozen 1) (fun W => run_take36 A2 _ c2 k hk2 hc2 W) (fun W => run_drop36 A2 _ c2 k hk2 W)
        (fun W kW => by have := reads_take (own_keep o2' kW (by simp)) hk2; rwa [← List.map_take] at this) (fun W kW => by have := reads_drop (own_keep o2' kW (by simp)) hk2 hc2; rwa [← List.map_drop] at this)
        (pv_one _) (pv_one _) _ _ _ _ _ _ _ _ _ _ _ _ _ _ _ _ _ _ _ _ _ _ _ _ _ _ _ _ _ _ _ _ _ _ _ _ _ _ _ _ _ _ _ _ _ _ _ _ _ _ _ _ _ _ _ _ _ _ _ _ _ _ _ _ _ _ _ _ _ _ _ _ _ _ _ _ _ _ _ _ _ _ _ _ _ _ _ _ _ _ _ _ _ _ ?_
      intro v75 v76 v77 v78 v79 v80 v81 v82 v83 v84 v85 v86 v87 v88 v89 v90 v91 v92 v93 v94 v95 v4 W4 o4 k4 f4
      obtain ⟨A2', c2', rfl, -, -, -⟩ := own_shape o4
      have e4 : ([] ++ (qs.take k).map pv) ++ [Value.pointer (some ⟨q, 0, none⟩)] ++ (qs.drop k).map pv = (qs.take k ++ q :: qs.drop k).map pv := by simp [pv]
      rw [e4] at o4
      have hpo1 : p ∉ fp (.slice A1' (r.N.length + 1) c1') := fun hp => by have := f3 p hp; omega
      have hpo2 : p ∉ fp (.slice A2' (r.M.length + 1) c2') := fun hp => by have := f4 p hp; omega
      have bF : Blk _ p 39 #[.slice A1' (r.N.length + 1) c1', .slice A2' (r.M.length + 1) c2', .slice A3 r.C.length c3, .int .i64 r.n] := (b3.keep k4 (by simp)).set_ 1 (.slice A2' (r.M.length + 1) c2')
      have oF1 := own_far (p := ⟨p, 1, none⟩) (own_keep o3' k4 (by simp)) hpo1 (.slice A2' (r.M.length + 1) c2')
      have oF2 := own_far (p := ⟨p, 1, none⟩) o4 hpo2 (.slice A2' (r.M.length + 1) c2')
      have KF1 : Keeps [p] W1 (W4.setCell ⟨p, 1, none⟩ (.slice A2' (r.M.length + 1) c2')) := (K3.trans k4 (by simp)).setCell (.inl (by simp)) _
      have KF : Keeps [p] w (W4.setCell ⟨p, 1, none⟩ (.slice A2' (r.M.length + 1) c2')) := (K1.mono (by simp)).trans KF1 (fun g hg => .inl hg)
      have hqp : q ∉ [p] := fun hp => by have := List.mem_singleton.1 hp; omega
      have TF := T1.keep KF1 (fun g hg => by rw [List.mem_singleton.1 hg]; exact hqp)
      have hq1 : q ∉ fp (.slice A1' (r.N.length + 1) c1') := fun hp => by have := f3 q hp; omega
      have hq2 : q ∉ fp (.slice A2' (r.M.length + 1) c2') := fun hp => by have := f4 q hp; omega
      have HR := Lib.hid (HH.out.ins (x := x) (q := q) (i := k) hk bF oF1 oF2 KF TF (by omega) (fun g hg => by have := f3 g hg; omega) (fun g hg => by have := f4 g hg; omega) hq1 hq2)
      have HK := Lib.hid (And.intro KF (And.intro TF (And.intro f3 (And.intro f4 (And.intro hs3 (And.intro z1 hq))))))
      have HMi := HMS.out.2.1
      have HMi2 := Lib.hid HMi
      clear H1 T1 K1 o3' b3 o2' K3 f3 o4 e4 hpo1 hpo2 bF oF1 oF2 KF1 KF TF hq1 hq2 k4 f4 HMi HF hs3 z1 hq hqp
      go_wp2_with fail
      go_ret
      obtain ⟨KF, TF, f3, f4, hs3, z1, hq⟩ := HK.out
      refine ⟨q, r.ins k x, rfl, ?_, HMS.out.1⟩
      have hqM : (qs.take k ++ q :: qs.drop k)[k]? = some q := by
        have hql : k ≤ qs.length := by rw [HH.out.qlen]; exact hk2
        rw [ins_at _ _ hql, if_neg (by omega), if_pos rfl]
      have hM : (r.ins k x).M[k]? = some (r.tab x) := by
        show (r.M.take k ++ pg0 :: r.M.drop k)[k]? = _
        rw [ins_at _ _ hk2, if_neg (by omega), if_pos rfl, HMS.out.2.2]
      rw [HMS.out.2.2] at hM ⊢
      refine ⟨_, [q], ⟨_, _, _, _, _, _, _, _, _, HR.out, TF, .inl ⟨k, HMi2.out, hM, hqM, fun g hg => ?_⟩⟩, KF.mono (fun g hg => by rw [List.mem_singleton.1 hg]; exact HH.out.inF _ _ HH.out.lp), fun g hg => ?_, fun g hg => ?_⟩
      · rw [List.mem_singleton.1 hg, if_pos rfl]
      · rcases List.mem_cons.1 hg with rfl | hg
        · right; omega
        · rcases List.mem_append.1 hg with hg | hg
          · right; have := f3 g hg; omega
          · rcases List.mem_append.1 hg with hg | hg
            · right; have := f4 g hg; omega
            · exact .inl hg
      · right; rw [List.mem_singleton.1 hg]; omega
end Go.Proofs.YteognipfnbocpaaGreat
