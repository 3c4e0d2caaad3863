/- Three cells apart; the law CellsCopy, walked. -/
import Derived.Test.YtbllmpcpfmlemaaGreatZ7
namespace Go.Proofs.YtbllmpcpfmlemaaGreat
open Go.RowKit

/-- The operations at the place k. -/
theorem AtO.get {w : World} {A : Option Addr} {L : List Oq} (h : AtO w A L) {k : Nat} (hk : k < L.length) : ∃ b off, A = some ⟨b, off, none⟩ ∧
    w.cell? ⟨b, off + k * 9, none⟩ = some (.int .i64 L[k].x.dw) ∧ w.cell? ⟨b, off + k * 9 + 1, none⟩ = some (.int .i64 L[k].x.who) ∧ w.cell? ⟨b, off + k * 9 + 2, none⟩ = some (.int .i64 L[k].x.n) ∧
    w.cell? ⟨b, off + k * 9 + 3, none⟩ = some (sv L[k].x.key) ∧ w.cell? ⟨b, off + k * 9 + 4, none⟩ = some (sv L[k].x.val) ∧ w.cell? ⟨b, off + k * 9 + 5, none⟩ = some (.int .i64 L[k].x.r.kind) ∧
    w.cell? ⟨b, off + k * 9 + 6, none⟩ = some (sv L[k].x.r.key) ∧ w.cell? ⟨b, off + k * 9 + 7, none⟩ = some (sv L[k].x.r.val) ∧ w.cell? ⟨b, off + k * 9 + 8, none⟩ = some (.slice L[k].A L[k].x.r.list.length L[k].c) := by
  obtain ⟨b, off, h1, _, h3⟩ := h.at_ (by omega)
  exact ⟨b, off, h1, h3 k hk⟩
/-- Three cells, apart. -/
def Tri (a W : World) (c d e : Nat) (C D E : St) : Prop := ∃ FE GE, Cs W e FE GE E ∧ Duo a W c d C D (FE ++ GE)
section
variable {a W W' : World} {c d e : Nat} {C D E : St} {P : List Str}
theorem Tri.k (h : Tri a W c d e C D E) : Keeps [] a W := by obtain ⟨_, _, _, h⟩ := h; exact h.k
theorem Tri.swap (h : Tri a W c d e C D E) : Tri a W d c e D C E := by
  obtain ⟨FE, GE, h1, h2⟩ := h
  exact ⟨FE, GE, h1, h2.symm⟩
theorem Tri.keep0 (h : Tri a W c d e C D E) (hk : Keeps [] W W') : Tri a W' c d e C D E := by
  obtain ⟨FE, GE, h1, h2⟩ := h
  exact ⟨FE, GE, h1.keep0 hk, h2.keep0 hk⟩
theorem Tri.calls (h : Tri a W c d e C D E) {C' : St} {f : Nat} {args : Array Value} {R : Ending → World → Prop} (hc : ∀ F G, Cs W c F G C → Calls Tryz.prog f args W fun e w' => R e w' ∧ Turned W w' c F G C') :
    Calls Tryz.prog f args W fun x w' => R x w' ∧ Tri a w' c d e C' D E := by
  obtain ⟨FE, GE, h1, h2⟩ := h
  refine (h2.calls hc).mono ?_
  rintro x w' ⟨hr, k1, K, k2, k3⟩
  exact ⟨hr, FE, GE, h1.keep k2 (fun g hg h' => k3 g (List.mem_append_left _ h') hg) (fun g hg h' => k3 g (List.mem_append_right _ h') hg), k1⟩
theorem Duo.copy3 {T : List Nat} (h : Duo a W c d C D T) (hW : WF P C) (hP : PoolOk P) (hl : C.length ≤ 1000000) :
    Calls Tryz.prog 33 #[.pointer (some ⟨c, 0, none⟩)] W fun x w' => ∃ e, x = .returned (.pointer (some ⟨e, 0, none⟩)) ∧ Tri a w' c d e C D C := by
  obtain ⟨F, G, F2, G2, h1, h2, h3, h4, h5, h6, h7, h8⟩ := h
  refine (copy_any h1 hW hP hl).mono ?_
  rintro x w' ⟨e, F', rfl, k1, k2, k3⟩
  refine ⟨e, rfl, F', G, k1, F, G, F2, G2, h1.keep0 k3, h2.keep0 k3, h3, h4, h5, h6, h7.trans k3 (by simp), fun g hg => ?_⟩
  rcases List.mem_append.1 hg with hg | hg
  · exact ⟨k1.ltF g hg, fun h' => by have := h1.ltF g h'; have := k2 g hg; omega, fun h' => by have := h2.ltF g h'; have := k2 g hg; omega⟩
  · exact ⟨k1.ltG g hg, h1.off g hg, fun h' => (h6 g h').2 hg⟩
theorem Tri.cd (h : Tri a W c d e C C E) (hW : WF P C) (hP : PoolOk P) (hl : C.length ≤ 1000000) :
    Calls Tryz.prog 37 #[.pointer (some ⟨c, 0, none⟩), .pointer (some ⟨d, 0, none⟩)] W fun x w' => x = .returned (.bool true) ∧ Keeps [] W w' := by
  obtain ⟨FE, GE, h1, F, G, F2, G2, h2, h3, _⟩ := h
  exact equal_any h2 h3 hW hP hl
theorem Tri.de (h : Tri a W c d e C D D) (hW : WF P D) (hP : PoolOk P) (hl : D.length ≤ 1000000) :
    Calls Tryz.prog 37 #[.pointer (some ⟨d, 0, none⟩), .pointer (some ⟨e, 0, none⟩)] W fun x w' => x = .returned (.bool true) ∧ Keeps [] W w' := by
  obtain ⟨FE, GE, h1, F, G, F2, G2, h2, h3, _⟩ := h
  exact equal_any h3 h1 hW hP hl
/-- Operations, one after the other. -/
def runO (C : St) (L : List Oq) : St := L.foldl (fun C q => (doP C q.x).2) C
theorem runO_take (C : St) {L : List Oq} {k : Nat} (hk : k < L.length) : runO C (L.take (k + 1)) = (doP (runO C (L.take k)) L[k].x).2 := by
  rw [List.take_succ_eq_append_getElem hk]
  unfold runO
  rw [List.foldl_append]
  rfl
theorem runO_all (C : St) (L : List Oq) : runO C (L.take L.length) = runO C L := by rw [List.take_length]
theorem do_tri {n : Nat} (h : Tri a W c d e C D E) (hf : Fit P n C) (hn : n ≤ 100000) (hP : PoolOk P) (x : Opn) (hx : OkO P x) (A : Option Addr) (cc : Nat) (hA : AtS W A x.r.list) :
    Calls Tryz.prog 11 #[.pointer (some ⟨c, 0, none⟩), .agg #[.int .i64 x.dw, .int .i64 x.who, .int .i64 x.n, sv x.key, sv x.val, .int .i64 x.r.kind, sv x.r.key, sv x.r.val, .slice A x.r.list.length cc]] W fun y w' =>
      (∃ v, y = .returned (.tuple #[sv (doP C x).1.1, v, .int .i64 (doP C x).1.2.2])) ∧ Tri a w' c d e (doP C x).2 D E :=
  h.calls (fun F G hC => by
    refine (do_any hC hf.wf hP (hf.hl hn) (hf.hlg hn) x hx A cc hA).mono ?_
    rintro e w' ⟨v, h1, h2, h3, h4⟩
    exact ⟨⟨v, h1⟩, h4⟩)
end
set_option maxRecDepth 1000000 in
set_option maxHeartbeats 12800000 in
theorem copy_walk (w : World) (A A2 : Option Addr) (L M : List Oq) (ca cb : Nat) (hA : AtO w A L) (hB : AtO w A2 M) :
    Calls Tryz.prog 5 #[.slice A L.length ca, .slice A2 M.length cb] w fun e w' => e = .returned (.bool true) ∧ Keeps [] w w' := by
  have HL := Lib.hid hA
  have HM := Lib.hid hB
  have mL := hA.mx
  have mM := hB.mx
  have CS := Lib.hid (small_any w)
  clear hA hB
  go_enter Tryz.func5, Tryz.ntmps5
  go_wp2_with fail
  refine CS.out.mono ?_
  rintro e w1 ⟨rfl, k1⟩
  have K1 := Lib.hid k1
  clear k1 CS
  go_wp2_with fail
  refine (new_any w1).mono ?_
  rintro e w2 ⟨c, F, rfl, hc, hF, k2⟩
  have HT : Hid (Sta w w2 c new0 [] []) := Lib.hid (Sta.of ⟨F, [], hc, fun g hg => Nat.le_trans K1.out.size (hF g hg), K1.out.trans k2 (by simp)⟩)
  clear hc hF k2 K1
  have CF := Lib.hid (few_any w2 A L ca 40 (HL.out.keep HT.out.k))
  have CG := Lib.hid (few_any w2 A2 M cb 30 (HM.out.keep HT.out.k))
  obtain ⟨V, hV⟩ : ∃ V, fewB L 40 = V := ⟨_, rfl⟩
  obtain ⟨V2, hV2⟩ : ∃ V, fewB M 30 = V := ⟨_, rfl⟩
  rw [hV] at CF
  rw [hV2] at CG
  have HV := Lib.hid hV
  have HV2 := Lib.hid hV2
  clear hV hV2
  cases V with
  | false =>
    go_wp2_with fail
    refine CF.out.mono ?_
    rintro e w3 ⟨rfl, rfl⟩
    go_wp2_with fail
    go_ret
    exact ⟨rfl, HT.out.k⟩
  | true =>
  cases V2 with
  | false =>
    go_wp2_with fail
    refine CF.out.mono ?_
    rintro e w3 ⟨rfl, rfl⟩
    go_wp2_with fail
    refine CG.out.mono ?_
    rintro e w4 ⟨rfl, rfl⟩
    go_wp2_with fail
    go_ret
    exact ⟨rfl, HT.out.k⟩
  | true =>
  have l1 : L.length ≤ 40 := by have := (few_spec HV.out).1; omega
  have l2 : M.length ≤ 30 := by have := (few_spec HV2.out).1; omega
  obtain ⟨P, hP1, hP2, hP3⟩ : ∃ P, PoolOk P ∧ (∀ k ∈ poolL L, k ∈ P) ∧ (∀ k ∈ poolL M, k ∈ P) := by
    refine ⟨poolL L ++ poolL M, PoolOk.mk' (fun s hs => ?_) ?_, fun k hk => by simp [hk], fun k hk => by simp [hk]⟩
    · rw [List.mem_append] at hs
      rcases hs with hs | hs
      · exact poolL_short HV.out s hs
      · exact poolL_short HV2.out s hs
    · have h1 := poolL_len (L := L) (fun q hq => ((few_spec HV.out).2 q hq).2.1)
      have h2 := poolL_len (L := M) (fun q hq => ((few_spec HV2.out).2 q hq).2.1)
      rw [List.length_append]
      omega
  have HP := Lib.hid hP1
  have HOKL := Lib.hid (OkL.of HL.out HV.out hP2)
  have HOKM := Lib.hid (OkL.of HM.out HV2.out hP3)
  clear hP1 hP2 hP3 HV HV2
  go_wp2_with fail
  refine CF.out.mono ?_
  rintro e w3 ⟨rfl, rfl⟩
  clear CF
  go_wp2_with fail
  refine CG.out.mono ?_
  rintro e w3 ⟨rfl, rfl⟩
  clear CG
  go_wp2_with fail
  go_loopw [7] (fun iv wr => ∃ (k : Nat) (C : St), k ≤ L.length ∧ iv = .int .i64 k ∧ Sta w wr c C [] [] ∧ Fit P k C) (fun iv _ => L.length - (intOf iv).toNat)
  case atStart => exact ⟨0, new0, by omega, rfl, HT.out, Fit.new0 P⟩
  case round =>
    obtain ⟨k, C, hk, rfl, ho, hf⟩ := hrel
    clear HT
    have HT := Lib.hid ho
    have HF := Lib.hid hf
    clear ho hf
    by_cases hlt : k < L.length
    · obtain ⟨bl, off, hAA, c0, c1, c2, c3, c4, c5, c6, c7, c8⟩ := (HL.out.keep HT.out.k).get hlt
      have HX := Lib.hid (HOKL.out _ (List.getElem_mem hlt))
      have HZ := Lib.hid ((HL.out.keep HT.out.k).ml _ (List.getElem_mem hlt) HX.out.2)
      subst hAA
      obtain ⟨q, hq⟩ : ∃ q, L[k] = q := ⟨_, rfl⟩
      rw [hq] at c0 c1 c2 c3 c4 c5 c6 c7 c8 HX HZ
      clear hq
      have i0 : (0 : Int) ≤ (k : Int) := by omega
      have i1 : (k : Int) < (L.length : Int) := by omega
      go_wp2_with fail
      refine (do_sta HT.out HF.out (by omega) HP.out q.x HX.out.1 q.A q.c HZ.out).mono ?_
      rintro e w5 ⟨⟨v, rfl, -, -⟩, ho5, -⟩
      have HO5 := Lib.hid ho5
      have HF5 : Hid (Fit P (k + 1) (doP C q.x).2) := Lib.hid (HF.out.do_ HX.out.1.p HX.out.1.n.2 HX.out.1.v)
      clear ho5 HT HF HX HZ c0 c1 c2 c3 c4 c5 c6 c7 c8
      go_wp2_with fail
      exact ⟨⟨k + 1, _, by omega, rfl, HO5.out, HF5.out⟩, by simp only [intOf]; omega⟩
    · obtain rfl : k = L.length := by omega
      have i1 : ¬ ((L.length : Int) < (L.length : Int)) := by omega
      have hf40 := HF.out.mono l1
      clear HF
      have HF := Lib.hid hf40
      clear hf40
      go_wp2_with fail
      refine (HT.out.copy HF.out.wf HP.out (HF.out.hl (by omega))).mono ?_
      rintro e w5 ⟨d, rfl, ho5, -⟩
      have HO5 := Lib.hid ho5
      clear ho5 HT
      go_wp2_with fail
      refine (HO5.out.copy3 HF.out.wf HP.out (HF.out.hl (by omega))).mono ?_
      rintro e w6 ⟨d2, rfl, ho6⟩
      have HT6 := Lib.hid ho6
      clear ho6 HO5
      go_wp2_with fail
      refine (HT6.out.cd HF.out.wf HP.out (HF.out.hl (by omega))).mono ?_
      rintro e w7 ⟨rfl, k7⟩
      have HT7 := Lib.hid (HT6.out.keep0 k7)
      clear k7 HT6
      clear i1
      go_wp2_with fail
      go_loopw [10] (fun iv wr => ∃ k : Nat, k ≤ M.length ∧ iv = .int .i64 k ∧ Tri w wr c d d2 (runO C (M.take k)) C C ∧ Fit P (40 + k) (runO C (M.take k))) (fun iv _ => M.length - (intOf iv).toNat)
      case atStart => exact ⟨0, by omega, rfl, HT7.out, HF.out⟩
      case round =>
        obtain ⟨k, hk, rfl, ho, hf⟩ := hrel
        clear HT7
        have HT := Lib.hid ho
        have HG := Lib.hid hf
        clear ho hf
        by_cases hlt : k < M.length
        · obtain ⟨bl, off, hAA, c0, c1, c2, c3, c4, c5, c6, c7, c8⟩ := (HM.out.keep HT.out.k).get hlt
          have HX := Lib.hid (HOKM.out _ (List.getElem_mem hlt))
          have HZ := Lib.hid ((HM.out.keep HT.out.k).ml _ (List.getElem_mem hlt) HX.out.2)
          subst hAA
          have hsx := runO_take C hlt
          obtain ⟨q, hq⟩ : ∃ q, M[k] = q := ⟨_, rfl⟩
          rw [hq] at c0 c1 c2 c3 c4 c5 c6 c7 c8 HX HZ hsx
          have HSX := Lib.hid hsx
          clear hq hsx
          have i0 : (0 : Int) ≤ (k : Int) := by omega
          have i1 : (k : Int) < (M.length : Int) := by omega
          obtain ⟨D, hD⟩ : ∃ D, runO C (M.take k) = D := ⟨_, rfl⟩
          rw [hD] at HT HG HSX
          clear hD
          go_wp2_with fail
          refine (do_tri HT.out HG.out (by omega) HP.out q.x HX.out.1 q.A q.c HZ.out).mono ?_
          rintro e w8 ⟨⟨v, rfl⟩, ho8⟩
          have HO8 := Lib.hid ho8
          have HF8 : Hid (Fit P (40 + (k + 1)) (doP D q.x).2) := Lib.hid (HG.out.do_ HX.out.1.p HX.out.1.n.2 HX.out.1.v)
          rw [← HSX.out] at HO8 HF8
          clear ho8 HT HG HX HZ HSX c0 c1 c2 c3 c4 c5 c6 c7 c8
          go_wp2_with fail
          exact ⟨⟨k + 1, by omega, rfl, HO8.out, HF8.out⟩, by simp only [intOf]; omega⟩
        · obtain rfl : k = M.length := by omega
          have i1 : ¬ ((M.length : Int) < (M.length : Int)) := by omega
          rw [runO_all] at HT HG
          go_wp2_with fail
          refine (HT.out.de HF.out.wf HP.out (HF.out.hl (by omega))).mono ?_
          rintro e w9 ⟨rfl, k9⟩
          have HT9 := Lib.hid (HT.out.keep0 k9).swap
          clear k9 HT
          clear i1
          go_wp2_with fail
          go_loopw [11] (fun iv wr => ∃ k : Nat, k ≤ M.length ∧ iv = .int .i64 k ∧ Tri w wr d c d2 (runO C (M.take k)) (runO C M) C ∧ Fit P (40 + k) (runO C (M.take k))) (fun iv _ => M.length - (intOf iv).toNat)
          case atStart => exact ⟨0, by omega, rfl, HT9.out, HF.out⟩
          case round =>
            obtain ⟨k, hk, rfl, ho, hf⟩ := hrel
            clear HT9
            have HT := Lib.hid ho
            have HG2 := Lib.hid hf
            clear ho hf
            by_cases hlt : k < M.length
            · obtain ⟨bl, off, hAA, c0, c1, c2, c3, c4, c5, c6, c7, c8⟩ := (HM.out.keep HT.out.k).get hlt
              have HX := Lib.hid (HOKM.out _ (List.getElem_mem hlt))
              have HZ := Lib.hid ((HM.out.keep HT.out.k).ml _ (List.getElem_mem hlt) HX.out.2)
              subst hAA
              have hsx := runO_take C hlt
              obtain ⟨q, hq⟩ : ∃ q, M[k] = q := ⟨_, rfl⟩
              rw [hq] at c0 c1 c2 c3 c4 c5 c6 c7 c8 HX HZ hsx
              have HSX := Lib.hid hsx
              clear hq hsx
              have i0 : (0 : Int) ≤ (k : Int) := by omega
              have i1 : (k : Int) < (M.length : Int) := by omega
              obtain ⟨D, hD⟩ : ∃ D, runO C (M.take k) = D := ⟨_, rfl⟩
              rw [hD] at HT HG2 HSX
              clear hD
              go_wp2_with fail
              refine (do_tri HT.out HG2.out (by omega) HP.out q.x HX.out.1 q.A q.c HZ.out).mono ?_
              rintro e w10 ⟨⟨v, rfl⟩, ho8⟩
              have HO8 := Lib.hid ho8
              have HF8 : Hid (Fit P (40 + (k + 1)) (doP D q.x).2) := Lib.hid (HG2.out.do_ HX.out.1.p HX.out.1.n.2 HX.out.1.v)
              rw [← HSX.out] at HO8 HF8
              clear ho8 HT HG2 HX HZ HSX c0 c1 c2 c3 c4 c5 c6 c7 c8
              go_wp2_with fail
              exact ⟨⟨k + 1, by omega, rfl, HO8.out, HF8.out⟩, by simp only [intOf]; omega⟩
            · obtain rfl : k = M.length := by omega
              have i1 : ¬ ((M.length : Int) < (M.length : Int)) := by omega
              rw [runO_all] at HT HG2
              go_wp2_with fail
              refine (HT.out.swap.cd HG2.out.wf HP.out (HG2.out.hl (by omega))).mono ?_
              rintro e w11 ⟨rfl, k11⟩
              have K11 := Lib.hid (HT.out.k.trans k11 (by simp))
              clear k11 HT
              go_wp2_with fail
              go_ret
              exact ⟨rfl, K11.out⟩
end Go.Proofs.YtbllmpcpfmlemaaGreat
