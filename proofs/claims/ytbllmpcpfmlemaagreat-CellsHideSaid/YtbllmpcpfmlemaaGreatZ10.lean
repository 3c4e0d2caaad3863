/- The law CellsLook, walked (printed by z10gen.py). -/
import Derived.Test.YtbllmpcpfmlemaaGreatZ9
import Derived.Test.YtbllmpcpfmlemaaGreatInts
namespace Go.Proofs.YtbllmpcpfmlemaaGreat
open Go.RowKit

theorem seesKeys_len {P : List Str} {C : St} (hW : WF P C) (hP : PoolOk P) (i : Int) (k : Str) : (seesKeys C i k).length ≤ 1000000 := hP.le (seesKeys_ok hW.ok i k).1 (fun s hs => ((seesKeys_ok hW.ok i k).2 s hs).1)
theorem do_len {P : List Str} {C : St} (hW : WF P C) (hP : PoolOk P) (x : Opn) (hx : x.key ∈ P) : (doP C x).1.2.1.length ≤ 1000000 := by
  unfold doP
  by_cases h4 : doing x < 4
  · rw [if_pos h4]; simp
  rw [if_neg h4]
  by_cases h6 : doing x = 6
  · rw [if_pos h6]; exact seesKeys_len (hW.askK _ hx) hP _ _
  rw [if_neg h6]
  repeat' split
  all_goals simp
section
variable {a W W' : World} {c d n : Nat} {C D : St} {P : List Str} {T : List Nat}
theorem Duo.sub (h : Duo a W c d C D T) {U : List Nat} (hs : ∀ g ∈ U, g ∈ T) : Duo a W c d C D U := by
  obtain ⟨F, G, F2, G2, h1, h2, h3, h4, h5, h6, h7, h8⟩ := h
  exact ⟨F, G, F2, G2, h1, h2, h3, h4, h5, h6, h7, fun g hg => h8 g (hs g hg)⟩
theorem Own0.beside (h : Own0 a W c C) : Calls Tryz.prog 8 #[] W fun e w' => ∃ d, e = .returned (.pointer (some ⟨d, 0, none⟩)) ∧ Duo a w' c d C new0 [] := by
  obtain ⟨F, G, h1, h2, h3⟩ := h
  refine (new_any W).mono ?_
  rintro e w' ⟨d, F2, rfl, k1, k2, k3⟩
  have := h3.size
  refine ⟨d, rfl, F, G, F2, [], h1.keep0 k3, k1, h2, fun g hg => by have := k2 g hg; omega, fun g hg => ⟨fun h' => ?_, by simp⟩, fun g hg => ⟨fun h' => ?_, fun h' => ?_⟩, h3.trans k3 (by simp), by simp⟩
  · have := h1.ltF g hg; have := k2 g h'; omega
  · have := h1.ltF g h'; have := k2 g hg; omega
  · have := h1.ltG g h'; have := k2 g hg; omega
theorem Duo.eq (h : Duo a W c d C C T) (hW : WF P C) (hP : PoolOk P) (hl : C.length ≤ 1000000) :
    Calls Tryz.prog 37 #[.pointer (some ⟨c, 0, none⟩), .pointer (some ⟨d, 0, none⟩)] W fun x w' => x = .returned (.bool true) ∧ Keeps [] W w' := by
  obtain ⟨F, G, F2, G2, h2, h3, _⟩ := h
  exact equal_any h2 h3 hW hP hl
theorem do_duo (h : Duo a W c d C D T) (hf : Fit P n C) (hn : n ≤ 100000) (hP : PoolOk P) (x : Opn) (hx : OkO P x) (A : Option Addr) (cc : Nat) (hA : AtS W A x.r.list) :
    Calls Tryz.prog 11 #[.pointer (some ⟨c, 0, none⟩), .agg #[.int .i64 x.dw, .int .i64 x.who, .int .i64 x.n, sv x.key, sv x.val, .int .i64 x.r.kind, sv x.r.key, sv x.r.val, .slice A x.r.list.length cc]] W fun y w' =>
      (∃ v, y = .returned (.tuple #[sv (doP C x).1.1, v, .int .i64 (doP C x).1.2.2]) ∧ w'.ownsRow 0 9 1 v (doP C x).1.2.1.length (vs (doP C x).1.2.1)) ∧ Duo a w' c d (doP C x).2 D T ∧ Kept T W w' :=
  h.calls (fun F G hC => by
    refine (do_any hC hf.wf hP (hf.hl hn) (hf.hlg hn) x hx A cc hA).mono ?_
    rintro e w' ⟨v, h1, h2, h3, h4⟩
    exact ⟨⟨v, h1, h2⟩, h4⟩)
/-- Both do the same. -/
theorem both_do (hf : Fit P n C) (hn : n ≤ 100000) (hP : PoolOk P) (x : Opn) (hx : OkO P x) (A : Option Addr) (cc : Nat) :
    ∃ (s : Str) (q : List Str) (z : Int) (E : St), Fit P (n + 1) E ∧ q.length ≤ 1000000 ∧ E = (doP C x).2 ∧
      (∀ a W c d D T, Duo a W c d C D T → AtS W A x.r.list → Calls Tryz.prog 11 #[.pointer (some ⟨c, 0, none⟩), .agg #[.int .i64 x.dw, .int .i64 x.who, .int .i64 x.n, sv x.key, sv x.val, .int .i64 x.r.kind, sv x.r.key, sv x.r.val, .slice A x.r.list.length cc]] W fun y w' =>
        (∃ v, y = .returned (.tuple #[sv s, v, .int .i64 z]) ∧ w'.ownsRow 0 9 1 v q.length (vs q)) ∧ Duo a w' c d E D T ∧ Kept T W w') :=
  ⟨_, _, _, _, hf.do_ hx.p hx.n.2 hx.v, do_len hf.wf hP x hx.k, rfl, fun _ _ _ _ _ _ h hA => do_duo h hf hn hP x hx A cc hA⟩
/-- What looking tells: the same as asking a copy. -/
theorem look_e38 (hW : WF P C) (hP : PoolOk P) {i : Int} (hi : I64 i) {k : Str} (hk : k ∈ P) {e0 : Nat} :
    ∀ W, Own0 a W e0 C → Calls Tryz.prog 38 #[.pointer (some ⟨e0, 0, none⟩), .int .i64 i, sv k] W fun e w' => e = .returned (sv (sees C i k)) ∧ Own0 a w' e0 (askP C i k) := fun W h => by
  have h1 := h.calls (fun F G hC => get_any hC hW hP hi k hk)
  rw [sees_ask hW.tree] at h1
  exact h1
theorem look_e39 (hW : WF P C) (hP : PoolOk P) {i : Int} (hi : I64 i) {k k2 : Str} (hk : k ∈ P) (hk2 : k2 ∈ P) {e0 : Nat} :
    ∀ W v, Own0 a W e0 (askP C i k) → W.ownsRow 0 9 1 v (seesKeys C i k2).length (vs (seesKeys C i k2)) → Calls Tryz.prog 39 #[.pointer (some ⟨e0, 0, none⟩), .int .i64 i, sv k2] W fun e w' =>
      (∃ A d, e = .returned (.slice A (seesKeys C i k2).length d) ∧ w'.ownsRow 0 9 1 (.slice A (seesKeys C i k2).length d) (seesKeys C i k2).length (vs (seesKeys C i k2))) ∧ w'.ownsRow 0 9 1 v (seesKeys C i k2).length (vs (seesKeys C i k2)) ∧ Keeps [] a w' := fun W v h hv => by
  have hs := (Sta.of h).addRow hv (by decide) (by decide) (by decide)
  have h1 := hs.calls (D := askKP (askP C i k) i k2) (R := fun e w' => ∃ v, e = .returned v ∧ w'.ownsRow 0 9 1 v (seesKeys C i k2).length (vs (seesKeys C i k2))) (fun F G hC => by
    have h2 := keysOp_any hC (hW.ask i hk) hP hi k2 hk2
    rw [seesKeys_askK (hW.ask i hk).tree, seesKeys_ask hW.tree] at h2
    refine h2.mono ?_
    rintro e w' ⟨v, q1, q2, q3, q4⟩
    exact ⟨⟨v, q1, q2⟩, q4⟩)
  refine h1.mono ?_
  rintro e w' ⟨⟨u, rfl, o1⟩, s1, k1⟩
  obtain ⟨A, d, rfl, -, -, -⟩ := own_shape o1
  exact ⟨⟨A, d, rfl, o1⟩, k1.own hv (by simp), s1.k⟩
end
set_option maxRecDepth 1000000 in
set_option maxHeartbeats 25600000 in
theorem look_walk (w : World) (A B : Option Addr) (L : List Oq) (ca n cb : Nat) (z : Nat → Int) (ky : Str) (hA : AtO w A L) (hB : 0 < n → ∃ bl off, B = some ⟨bl, off, none⟩ ∧ IntsAt w bl off n z) (hn : n ≤ 9223372036854775807) (hky : ky.length ≤ 9223372036854775807) :
    Calls Tryz.prog 6 #[.slice A L.length ca, .slice B n cb, sv ky] w fun e w' => e = .returned (.bool true) ∧ Keeps [] w w' := by
  have HL := Lib.hid hA
  have HB := Lib.hid hB
  have mL := hA.mx
  have CS := Lib.hid (small_any w)
  clear hA hB
  go_enter Tryz.func6, Tryz.ntmps6
  go_wp2_with fail
  refine CS.out.mono ?_
  rintro e w1 ⟨rfl, k1⟩
  have K1 := Lib.hid k1
  clear k1 CS
  go_wp2_with fail
  refine (new_any w1).mono ?_
  rintro e w2 ⟨c, F, rfl, hc, hF, k2⟩
  have H0 : Hid (Own0 w w2 c new0) := Lib.hid ⟨F, [], hc, fun g hg => Nat.le_trans K1.out.size (hF g hg), K1.out.trans k2 (by simp)⟩
  clear hc hF k2 K1
  go_wp2_with fail
  refine H0.out.beside.mono ?_
  rintro e w3 ⟨d, rfl, hd⟩
  have HD := Lib.hid hd
  clear hd H0
  have CF := Lib.hid (few_any w3 A L ca 50 (HL.out.keep HD.out.k))
  obtain ⟨V, hV⟩ : ∃ V, fewB L 50 = V := ⟨_, rfl⟩
  rw [hV] at CF
  have HV := Lib.hid hV
  clear hV
  cases V with
  | false =>
    go_wp2_with fail
    refine CF.out.mono ?_
    rintro e w4 ⟨rfl, rfl⟩
    go_wp2_with fail
    go_ret
    exact ⟨rfl, HD.out.k⟩
  | true =>
  by_cases hn10 : 10 < n
  · go_wp2_with fail
    refine CF.out.mono ?_
    rintro e w4 ⟨rfl, rfl⟩
    go_wp2_with fail
    go_ret
    exact ⟨rfl, HD.out.k⟩
  by_cases hlong : 30 < ky.length
  · go_wp2_with fail
    refine CF.out.mono ?_
    rintro e w4 ⟨rfl, rfl⟩
    go_wp2_with fail
    go_ret
    exact ⟨rfl, HD.out.k⟩
  have l1 : L.length ≤ 50 := by have := (few_spec HV.out).1; omega
  obtain ⟨P, hP1, hP2, hP3⟩ : ∃ P, PoolOk P ∧ (∀ k ∈ poolL L, k ∈ P) ∧ ky ∈ P := by
    refine ⟨poolL L ++ [ky], PoolOk.mk' (fun s hs => ?_) ?_, fun k hk => by simp [hk], by simp⟩
    · rw [List.mem_append] at hs
      rcases hs with hs | hs
      · exact poolL_short HV.out s hs
      · rw [List.mem_singleton.1 hs]; omega
    · have h1 := poolL_len (L := L) (fun q hq => ((few_spec HV.out).2 q hq).2.1)
      rw [List.length_append, List.length_singleton]
      omega
  have HP := Lib.hid hP1
  have HOKL := Lib.hid (OkL.of HL.out HV.out hP2)
  have HKY := Lib.hid hP3
  clear hP1 hP2 hP3 HV
  go_wp2_with fail
  refine CF.out.mono ?_
  rintro e w4 ⟨rfl, rfl⟩
  clear CF
  go_wp2_with fail
  clear hlong hky
  go_loopw [10, 11, 12, 13, 14, 15, 16, 17, 18] (fun iv _ _ _ _ _ _ _ _ wr => ∃ (j : Nat) (C : St), j ≤ L.length ∧ iv = .int .i64 j ∧ Duo w wr c d C C [] ∧ Fit P j C) (fun iv _ _ _ _ _ _ _ _ _ => L.length - (intOf iv).toNat)
  case atStart => exact ⟨0, new0, by omega, rfl, HD.out, Fit.new0 P⟩
  case round =>
    obtain ⟨j, C, hj, rfl, ho, hf⟩ := hrel
    clear HD
    have HD := Lib.hid ho
    have HF := Lib.hid hf
    clear ho hf
    by_cases hlt : j < L.length
    · have j0 : (0 : Int) ≤ (j : Int) := by omega
      have j1 : (j : Int) < (L.length : Int) := by omega
      go_wp2_with fail
      go_loopw [11, 12] (fun iv _ wr => ∃ k : Nat, k ≤ n ∧ iv = .int .i64 k ∧ Duo w wr c d C C []) (fun iv _ _ => n - (intOf iv).toNat)
      case atStart => exact ⟨0, by omega, rfl, HD.out⟩
      case round =>
        obtain ⟨k, hk, rfl, ho⟩ := hrel
        clear HD
        have HD := Lib.hid ho
        clear ho
        by_cases hkn : k < n
        · obtain ⟨bl2, off2, hBB, hI⟩ := HB.out (by omega)
          have HI := Lib.hid hI
          obtain ⟨bl, off, hAA, hbl, hcl⟩ := HL.out.at_ (by omega)
          have hc3 := (hcl j hlt).2.2.2.1
          have HX := Lib.hid (HOKL.out _ (List.getElem_mem hlt))
          subst hBB hAA
          obtain ⟨kz, hkz⟩ : ∃ kz, L[j].x.key = kz := ⟨_, rfl⟩
          have hkzP : kz ∈ P := by rw [← hkz]; exact HX.out.1.k
          rw [hkz] at hc3
          have HS : Hid (∀ W, Keeps [] wr W → W.cell? ⟨bl2, off2 + k, none⟩ = some (.int .i64 (z k)) ∧ W.cell? ⟨bl, off + j * 9 + 3, none⟩ = some (sv kz)) := Lib.hid (fun W hk => by
            have hk' := HD.out.k.trans hk (by simp)
            exact ⟨(HI.out.keep hk').c k hkn, (hk'.cell (p := ⟨bl, _, none⟩) hbl (by simp)).trans hc3⟩)
          have hiz : I64 (z k) := HI.out.r k hkn
          have H16 : Hid (∀ W, Keeps [] wr W → Calls Tryz.prog 16 #[.pointer (some ⟨c, 0, none⟩), .int .i64 (z k), sv ky] W fun e w' => e = .returned (sv (sees C (z k) ky)) ∧ Keeps [] W w') := Lib.hid (fun W hk => by
            obtain ⟨F1, G1, hC1, _⟩ := HD.out.left
            refine (seesOp_any (hC1.keep0 hk) HF.out.wf hiz ky (HP.out.k ky HKY.out)).mono ?_
            rintro e w' ⟨rfl, rfl⟩
            exact ⟨rfl, Keeps.refl _ _⟩)
          have H18 : Hid (∀ W, Keeps [] wr W → Calls Tryz.prog 18 #[.pointer (some ⟨c, 0, none⟩), .int .i64 (z k), sv kz] W fun e w' => (∃ A d, e = .returned (.slice A (seesKeys C (z k) kz).length d) ∧ w'.ownsRow 0 9 1 (.slice A (seesKeys C (z k) kz).length d) (seesKeys C (z k) kz).length (vs (seesKeys C (z k) kz))) ∧ Keeps [] W w') := Lib.hid (fun W hk => by
            obtain ⟨F1, G1, hC1, _⟩ := HD.out.left
            refine (seesKeysOp_any (hC1.keep0 hk) HF.out.wf HP.out hiz kz (HP.out.k kz hkzP)).mono ?_
            rintro e w' ⟨⟨v, rfl, o1, -⟩, k1⟩
            obtain ⟨A', d', rfl, -, -, -⟩ := own_shape o1
            exact ⟨⟨A', d', rfl, o1⟩, k1⟩)
          have HQ := Lib.hid (seesKeys_len HF.out.wf HP.out (z k) kz)
          have H38 : Hid (∀ e0 W, Own0 wr W e0 C → Calls Tryz.prog 38 #[.pointer (some ⟨e0, 0, none⟩), .int .i64 (z k), sv ky] W fun e w' => e = .returned (sv (sees C (z k) ky)) ∧ Own0 wr w' e0 (askP C (z k) ky)) := Lib.hid (fun e0 => look_e38 HF.out.wf HP.out hiz HKY.out)
          have H39 : Hid (∀ e0 W v, Own0 wr W e0 (askP C (z k) ky) → W.ownsRow 0 9 1 v (seesKeys C (z k) kz).length (vs (seesKeys C (z k) kz)) → Calls Tryz.prog 39 #[.pointer (some ⟨e0, 0, none⟩), .int .i64 (z k), sv kz] W fun e w' =>
            (∃ A d, e = .returned (.slice A (seesKeys C (z k) kz).length d) ∧ w'.ownsRow 0 9 1 (.slice A (seesKeys C (z k) kz).length d) (seesKeys C (z k) kz).length (vs (seesKeys C (z k) kz))) ∧ w'.ownsRow 0 9 1 v (seesKeys C (z k) kz).length (vs (seesKeys C (z k) kz)) ∧ Keeps [] wr w') := Lib.hid (fun e0 => look_e39 HF.out.wf HP.out hiz HKY.out hkzP)
          obtain ⟨s, hs⟩ : ∃ s, sees C (z k) ky = s := ⟨_, rfl⟩
          obtain ⟨q, hq⟩ : ∃ q, seesKeys C (z k) kz = q := ⟨_, rfl⟩
          obtain ⟨D, hD⟩ : ∃ D, askP C (z k) ky = D := ⟨_, rfl⟩
          obtain ⟨id, hid⟩ : ∃ id, z k = id := ⟨_, rfl⟩
          rw [hs] at H16 H38
          rw [hq] at H18 H39 HQ
          rw [hD] at H38 H39
          rw [hid] at H16 H18 H38 H39 HS
          have CC := Lib.hid (HD.out.left.copy HF.out.wf HP.out (HF.out.hl (by omega)))
          have i0 : (0 : Int) ≤ (k : Int) := by omega
          have i1 : (k : Int) < (n : Int) := by omega
          clear hs hq hD hid hiz hkz hkzP hc3 hcl hI HI HX
          go_wp2_with fail
          refine CC.out.mono ?_
          rintro e w5 ⟨e0, rfl, -, he⟩
          have HE := Lib.hid he
          clear he CC
          go_upto_region 15 with fail
          refine lookR15_any w5 wr c e0 bl off L.length ca bl2 off2 n cb j k id ky kz s q C D _ HE.out.k HE.out HQ.out HS.out H16.out (H38.out e0) H18.out (H39.out e0) i0 i1 j0 j1 _ _ _ _ _ _ _ _ _ _ _ _ _ _ _ _ _ _ _ _ _ _ _ _ _ _ _ _ _ _ _ _ _ _ _ _ _ _ _ _ _ _ _ _ _ _ _ _ _ _ _ _ _ _ _ _ _ _ _ _ _ _ _ _ _ _ _ _ _ _ _ _ _ _ _ _ _ _ _ _ _ _ _ _ _ _ _ _ _ _ _ _ _ _ _ _ _ _ _ _ _ _ _ _ _ _ _ _ _ _ _ _ _ _ _ _ _ _ _ _ _ _ _ _ _ _ _ _ _ _ _ _ _ _ _ _ _ _ _ _ _ _ ?_
          intro v68 v69 v70 v71 v72 v73 v74 v75 v76 v77 v78 v79 v80 v81 v82 v83 v84 v85 v86 v87 v88 v89 v90 v91 v92 v93 v94 v95 v96 v97 v98 v99 v100 v101 v102 v103 v104 v105 v106 v107 W hk
          have HDN := Lib.hid (HD.out.keep0 hk)
          clear hk HS H16 H38 H18 H39 HE HQ HD i0 i1
          go_wp2_with fail
          exact ⟨⟨k + 1, by omega, rfl, HDN.out⟩, by simp only [intOf]; omega⟩
        · obtain rfl : k = n := by omega
          have i1 : ¬ ((k : Int) < (k : Int)) := by omega
          obtain ⟨bl, off, hAA, c0, c1, c2, c3, c4, c5, c6, c7, c8⟩ := (HL.out.keep HD.out.k).get hlt
          have HX := Lib.hid (HOKL.out _ (List.getElem_mem hlt))
          have HZ := Lib.hid (fun W (hk : Keeps [] w W) => (HL.out.keep hk).ml _ (List.getElem_mem hlt) HX.out.2)
          have HG : Hid (∀ W, Keeps [] w W → W.cell? ⟨bl, off + j * 9, none⟩ = some (.int .i64 L[j].x.dw) ∧ W.cell? ⟨bl, off + j * 9 + 1, none⟩ = some (.int .i64 L[j].x.who) ∧ W.cell? ⟨bl, off + j * 9 + 2, none⟩ = some (.int .i64 L[j].x.n) ∧
              W.cell? ⟨bl, off + j * 9 + 3, none⟩ = some (sv L[j].x.key) ∧ W.cell? ⟨bl, off + j * 9 + 4, none⟩ = some (sv L[j].x.val) ∧ W.cell? ⟨bl, off + j * 9 + 5, none⟩ = some (.int .i64 L[j].x.r.kind) ∧
              W.cell? ⟨bl, off + j * 9 + 6, none⟩ = some (sv L[j].x.r.key) ∧ W.cell? ⟨bl, off + j * 9 + 7, none⟩ = some (sv L[j].x.r.val) ∧ W.cell? ⟨bl, off + j * 9 + 8, none⟩ = some (.slice L[j].A L[j].x.r.list.length L[j].c)) := Lib.hid (fun W hk => by
            obtain ⟨b', o', e', h'⟩ := (HL.out.keep hk).get hlt
            rw [hAA] at e'
            injection e' with e'
            injection e' with e1 e2 e3
            subst e1 e2
            exact h')
          subst hAA
          obtain ⟨q, hq⟩ : ∃ q, L[j] = q := ⟨_, rfl⟩
          rw [hq] at c0 c1 c2 c3 c4 c5 c6 c7 c8 HX HZ HG
          clear hq
          obtain ⟨s, ql, zz, E, hfe, hql, -, hdo⟩ := both_do HF.out (by omega) HP.out q.x HX.out.1 q.A q.c
          have HFE := Lib.hid hfe
          have HQL := Lib.hid hql
          have HDO := Lib.hid hdo
          clear hfe hql hdo
          go_wp2_with fail
          refine (HDO.out _ _ _ _ _ _ HD.out (HZ.out _ HD.out.k)).mono ?_
          rintro e w6 ⟨⟨v, rfl, o6⟩, d6, -⟩
          obtain ⟨B1, n1, rfl, -, -, -⟩ := own_shape o6
          have D6 := Lib.hid (d6.addRow o6 (by decide) (by decide) (by decide)).symm
          have O6 := Lib.hid o6
          clear d6 o6 HD c0 c1 c2 c3 c4 c5 c6 c7 c8 i1
          obtain ⟨c0, c1, c2, c3, c4, c5, c6, c7, c8⟩ := HG.out _ D6.out.k
          go_wp2_with fail
          refine (HDO.out _ _ _ _ _ _ D6.out (HZ.out _ D6.out.k)).mono ?_
          rintro e w7 ⟨⟨v, rfl, o7⟩, d7, k7⟩
          obtain ⟨B2, n2, rfl, -, -, -⟩ := own_shape o7
          have D7 := Lib.hid (d7.sub (U := []) (by simp)).symm
          have O7 := Lib.hid o7
          have O6' := Lib.hid (k7.own O6.out (by simp))
          clear d7 o7 k7 D6 O6 HDO HG HZ HX c0 c1 c2 c3 c4 c5 c6 c7 c8
          go_wp2_with fail
          refine (same_eq O6'.out O7.out HQL.out).mono ?_
          rintro e w8 ⟨rfl, k8⟩
          have D8 := Lib.hid (D7.out.keep0 k8)
          clear k8 D7 O7 O6'
          go_wp2_with fail
          exact ⟨⟨j + 1, E, by omega, rfl, D8.out, HFE.out⟩, by simp only [intOf]; omega⟩
    · obtain rfl : j = L.length := by omega
      have i1 : ¬ ((L.length : Int) < (L.length : Int)) := by omega
      go_wp2_with fail
      refine (HD.out.eq HF.out.wf HP.out (HF.out.hl (by omega))).mono ?_
      rintro e w5 ⟨rfl, k5⟩
      have K5 := Lib.hid (HD.out.k.trans k5 (by simp))
      clear k5 HD
      go_wp2_with fail
      go_ret
      exact ⟨rfl, K5.out⟩
end Go.Proofs.YtbllmpcpfmlemaaGreat
