/- Texts of the elder seat, turned to this one: W26 W27 W28. -/
import Derived.Test.YtbllmpcpfmlemaaGreatMM
import Derived.Test.YtbllmpcpfmlemaaGreatSh
namespace Go.Proofs.YtbllmpcpfmlemaaGreat
open Go.RowKit
def pc (e : Str × Str) : List Value := [sv e.1, sv e.2]
theorem pc_len (e : Str × Str) : (pc e).length = 2 := rfl
theorem pc_one (e : Str × Str) : ∀ u ∈ pc e, u.oneCell' = true := by
  intro u hu
  simp [pc] at hu
  rcases hu with rfl | rfl <;> rfl
theorem info88 : (Tryz.prog.info? 88).map (fun i => (i.zero, i.size, i.bytes)) = some (some (.agg #[.string ⟨#[]⟩, .string ⟨#[]⟩]), 2, 32) := by kernel_rfl
def wrP (C : St) (i : Int) : List (Str × Str) := match find C i with
  | none => []
  | some x => x.wr
section
variable {w : World} {c : Nat} {F G : List Nat} {C : St} {P : List Str}
theorem wrP_len (hW : WF P C) (hP : PoolOk P) (i : Int) : (wrP C i).length ≤ 1000000 := by
  unfold wrP
  cases hf : find C i with
  | none => simp
  | some x => exact (wr_len hW hP (find_mem hf).1).1
set_option maxRecDepth 100000 in
set_option maxHeartbeats 3200000 in
theorem writes_any (h : Cs w c F G C) (hW : WF P C) (hP : PoolOk P) {i : Int} (hi : I64 i) :
    Calls Tryz.prog 25 #[.pointer (some ⟨c, 0, none⟩), .int .i64 i] w fun e w' => ∃ v, e = .returned v ∧ w'.ownsRow 0 88 2 v (wrP C i).length (rw pc (wrP C i)) ∧ Keeps [] w w' ∧ ∀ g ∈ fp v, w.heap.size ≤ g := by
  obtain ⟨m, Mo, L, h⟩ := h
  have f0 : w.cell? ⟨c, 0, none⟩ = some (.map (some m)) := h.cb.cell 0
  have l0 := h.look hi.1 hi.2
  have hwl := wrP_len hW hP i
  cases hh : has C i with
  | false =>
    have e0 : wrP C i = [] := by unfold wrP; rw [find_none.2 hh]
    rw [e0]
    simp only [hh] at l0
    have l0' : (Instr.lookup 63 (.map (some m)) (.int .i64 i) false).run Tryz.prog w = .ok (.pointer none) w := l0
    clear h l0 hh hi e0 hwl
    go_enter Tryz.func25, Tryz.ntmps25
    go_wp2_with fail
    go_ret
    exact ⟨_, rfl, World.ownsRow_nil _ _ _ _, Keeps.refl _ _, by simp⟩
  | true =>
    obtain ⟨x, hx⟩ := has_find hh
    obtain ⟨hxC, hxi⟩ := find_mem hx
    obtain ⟨o, hlab⟩ := h.at_ hx
    simp only [hh, if_true] at l0
    have l0' : (Instr.lookup 63 (.map (some m)) (.int .i64 i) false).run Tryz.prog w = .ok (.pointer (some ⟨(Mo i).b, 0, none⟩)) w := l0
    have e0 : wrP C i = x.wr := by unfold wrP; rw [hx]
    rw [e0] at hwl ⊢
    have f2 : w.cell? ⟨(Mo i).b, 2, none⟩ = some (.map (some (Mo i).mw)) := o.b.cell 2
    have hbl := o.b.lt
    have HWM := Lib.hid o.wm
    have hasc := (hW.ok x hxC).wr
    have HASC := Lib.hid hasc
    have HKP : Hid (∀ e ∈ x.wr, kS.ok e.1) := Lib.hid (fun e he => hP.k _ ((hW.ok x hxC).wp e he))
    have HF2 := Lib.hid f2
    generalize hwr : x.wr = W0 at hwl HWM hasc HASC HKP ⊢
    generalize hMb : (Mo i).b = xb at l0' f2 hbl HF2
    generalize hMw : (Mo i).mw = mw at f2 HWM HF2
    clear h l0 hh hi e0 o hlab hx hxi hxC hasc hwr hMb hMw hW hP
    have KA : Hid (Keeps [] w (w.alloc (.cells #[.map (some mw)] 74))) := Lib.hid ((Keeps.refl [] w).alloc _)
    have BA := Lib.hid (Blk.new w 74 #[.map (some mw)])
    have GA := Lib.hid (HWM.out.keep KA.out (by simp))
    go_enter Tryz.func25, Tryz.ntmps25
    go_wp2_with fail
    refine (keysS_any (some mw) w).mono ?_
    rintro e w1 ⟨rfl, rfl⟩
    go_wp2_with fail
    refine (sortedGS _ mw _ _ _ GA.out (by omega) BA.out).mono ?_
    rintro e w2 ⟨v, ss, rfl, s1, s2, -, s4, s5, s6⟩
    have e1 : ss = W0.map (·.1) := by
      refine asc_ext s1 HASC.out (fun y => ?_)
      rw [s2, ← mget_some]
      constructor
      · exact fun h => h.2
      · intro h
        obtain ⟨e, he, rfl⟩ := List.mem_map.1 (mget_some.1 h)
        exact ⟨HKP.out e he, h⟩
    subst e1
    have hll : (W0.map (·.1)).length = W0.length := List.length_map _
    rw [hll] at s4
    obtain ⟨A, cap, rfl, -, -, hA⟩ := own_shape s4
    have O2 := Lib.hid s4
    have HA := Lib.hid hA
    have K2 := Lib.hid (KA.out.trans s5 (by simp))
    clear s1 s2 s4 s5 s6 hll hA GA BA KA
    have HI := Lib.hid info88
    go_wp2_with fail
    go_loopw [24, 6] (fun iv v wr => ∃ k : Nat, k ≤ W0.length ∧ iv = .int .i64 k ∧ wr.ownsRow 0 88 2 v k (rw pc (W0.take k)) ∧ Keeps [] w2 wr ∧ ∀ g ∈ fp v, w2.heap.size ≤ g) (fun iv _ _ => W0.length - (intOf iv).toNat)
    case atStart => exact ⟨0, by omega, rfl, by rw [List.take_zero]; exact World.ownsRow_nil _ _ _ _, Keeps.refl _ _, by simp⟩
    case round =>
      obtain ⟨k, hk, rfl, ho, kp, hf⟩ := hrel
      obtain ⟨A1, c1, rfl, -, -, -⟩ := own_shape ho
      have HO := Lib.hid ho
      have KP := Lib.hid kp
      have HF := Lib.hid hf
      have HSS := Lib.hid (own_keep O2.out kp (by simp))
      have hK2 := K2.out
      have KW := Lib.hid (K2.out.trans kp (by simp))
      have i0 : (0 : Int) ≤ (k : Int) := by omega
      clear ho kp hf hK2
      by_cases hlt : k < W0.length
      · obtain ⟨g, hAg⟩ := HA.out (by omega)
        subst hAg
        have i1 : (k : Int) < (W0.length : Int) := by omega
        have c0 : wr.cell? ⟨g, k, none⟩ = some (sv W0[k].1) := own_cell HSS.out (by simp [vs, hlt])
        have hy := HKP.out _ (List.getElem_mem hlt)
        have f2' : wr.cell? ⟨xb, 2, none⟩ = some (.map (some mw)) := (KW.out.cell (p := ⟨xb, 2, none⟩) hbl (by simp)).trans HF2.out
        have l2 := (HWM.out.keep KW.out (by simp)).look1 hy Tryz.underlying74 (zero9 wr)
        have hmg : mget W0 W0[k].1 = some W0[k].2 := mget_of_mem HASC.out (List.getElem_mem hlt)
        rw [hmg] at l2
        clear hmg
        have l2' : (Instr.lookup 74 (.map (some mw)) (sv W0[k].1) false).run Tryz.prog wr = .ok (sv W0[k].2) wr := l2
        have HTK : Hid (W0.take (k + 1) = W0.take k ++ [W0[k]]) := Lib.hid (List.take_succ_eq_append_getElem hlt)
        generalize W0[k] = e at c0 l2' HTK
        obtain ⟨ek, ev⟩ := e
        dsimp only at c0 l2'
        clear l2 hy HSS
        have KB : Hid (Keeps [] wr (wr.alloc (.cells #[sv ek, sv ev] 88))) := Lib.hid ((Keeps.refl [] wr).alloc _)
        have RB := Lib.hid (reads_blk (Blk.new wr 88 #[sv ek, sv ev]) (xs := pc (ek, ev)) (size := 2) rfl rfl)
        have HO2 := Lib.hid (own_keep HO.out KB.out (by simp))
        go_wp2_with (at_builtin; refine wpList_app _ rfl (.tmp 28) (.tmp 37) _ rfl 88 (.agg #[.string ⟨#[]⟩, .string ⟨#[]⟩]) 2 32 Tryz.underlying47 HI.out rfl (by omega) (.slice A1 k c1) _ _ rfl HO2.out _ _ _ _ (pc (ek, ev)) rfl RB.out (pc_one _) (by unfold maxLen; omega) (by omega) ?_)
        intro v6 w6 o6 k6 f6
        have K6 : Hid (Keeps [] w2 w6) := Lib.hid ((KP.out.trans KB.out (by simp)).trans k6 (fun g hg => .inr (HF.out g hg)))
        have F6 : Hid (∀ g ∈ fp v6, w2.heap.size ≤ g) := Lib.hid (fun g hg => (f6 g hg).elim (HF.out g) (fun h => by
          have := KP.out.size
          have h1 : wr.heap.size + 1 ≤ g := by simpa using h
          omega))
        have O6 : Hid (w6.ownsRow 0 88 2 v6 (k + 1) (rw pc (W0.take (k + 1)))) := Lib.hid (by
          rw [HTK.out, rw_append, rw_cons, rw_nil, List.append_nil]; exact o6)
        clear o6 k6 f6 HO2 RB KB HO
        go_wp2_with fail
        exact ⟨⟨k + 1, by omega, rfl, O6.out, K6.out, F6.out⟩, by simp only [intOf]; omega⟩
      · obtain rfl : k = W0.length := by omega
        have i1 : ¬ ((W0.length : Int) < (W0.length : Int)) := by omega
        have OF : Hid (wr.ownsRow 0 88 2 (.slice A1 W0.length c1) W0.length (rw pc W0)) := Lib.hid (by have := HO.out; rwa [List.take_length] at this)
        have HF2 : Hid (∀ g ∈ fp (.slice A1 W0.length c1), w.heap.size ≤ g) := Lib.hid (fun g hg => Nat.le_trans K2.out.size (HF.out g hg))
        clear HO HSS
        go_wp2_with fail
        go_ret
        exact ⟨_, rfl, OF.out, KW.out, HF2.out⟩
end
end Go.Proofs.YtbllmpcpfmlemaaGreat
namespace Go.Proofs.YtbllmpcpfmlemaaGreat
open Go.RowKit
section
variable {w w1 w2 : World} {c m : Nat} {Mo : Int → Mem} {L : Nat → Option (Int × Nat)} {F G : List Nat} {C D : St} {P : List Str}
theorem StepOn.before {i : Int} (hk : Keeps [] w w1) (h : StepOn i w1 w2 c m Mo F G D) : StepOn i w w2 c m Mo F G D := by
  obtain ⟨row, sl, L', F', G', h1, h2, h3, h4, h5⟩ := h
  have hs := hk.size
  exact ⟨row, sl, L', F', G', h1, ⟨h2.1, fun g hg => (h2.2 g hg).imp id (fun h => by omega)⟩, ⟨h3.1, fun g hg => (h3.2 g hg).imp id (fun h => by omega)⟩, fun b hb => (h4 b hb).imp id (fun h => by omega), (hk.mono (by simp)).trans h5 (fun g hg => .inl hg)⟩
theorem StepOn.next {p : Int} {row : Value} {sl : Str → SlV} {F' G' : List Nat} (m1 : More w F F') (m2 : More w G G') (hr : ∀ b ∈ fp row, b ∈ fp (Mo p).row ∨ w.heap.size ≤ b) (hk : Keeps (Mo p).blocks w w1) (h : StepOn p w1 w2 c m (upMo Mo p row sl) F' G' D) : StepOn p w w2 c m Mo F G D := by
  obtain ⟨row2, sl2, L2, F2, G2, h1, h2, h3, h4, h5⟩ := h
  rw [upMo_upMo] at h1
  rw [upMo_eq] at h4 h5
  refine ⟨row2, sl2, L2, F2, G2, h1, m1.trans h2 hk.size, m2.trans h3 hk.size, fun b hb => ?_, hk.trans h5 (fun g hg => ?_)⟩
  · rcases h4 b hb with h6 | h6
    · exact hr b h6
    · exact .inr (Nat.le_trans hk.size h6)
  · simp only [Mem.blocks, List.mem_cons] at hg ⊢
    rcases hg with hg | hg | hg | hg | hg | hg
    · exact .inl (.inl hg)
    · exact .inl (.inr (.inl hg))
    · exact .inl (.inr (.inr (.inl hg)))
    · exact .inl (.inr (.inr (.inr (.inl hg))))
    · exact .inl (.inr (.inr (.inr (.inr (.inl hg)))))
    · rcases hr g hg with h6 | h6
      · exact .inl (.inr (.inr (.inr (.inr (.inr h6)))))
      · exact .inr h6
/-- A map of one's own has turned; nothing has moved. -/
theorem RepM.wrote' (h : RepM w c m Mo L F G C) (hT : Tree C) {i : Int} {x : One} (hx : find C i = some x) {b : Nat} (hk : Keeps [b] w w1) (hb : b ∈ (Mo i).blocks)
    {g : One → One} (hid : ∀ x, (g x).id = x.id) (hpar : ∀ x, (g x).par = x.par) (hrd : ∀ x, (g x).rd = x.rd) (ho : OneAt w1 (Mo i) (parOf Mo x) (kids C i) (g x)) : ∃ L', RepM w1 c m Mo L' (fp (Mo i).row ++ F) G (upd C i g) := by
  obtain ⟨hxC, hxi⟩ := find_mem hx
  have hb' : ∀ d ∈ [b], d ∈ (Mo i).blocks := by simpa using hb
  obtain ⟨L', hr⟩ := h.turn (N := []) hT hx hid hpar hk (fun d hd => .inl (hb' d hd)) (Mo i).row (Mo i).sl (fun _ h => .inl h) (fun d hd => own_lt ho.o hd) (by simp)
    (fun p l hl d hd => .inl (h.inG x hxC p l (by rw [← hrd x]; exact hl) d (by rw [hxi]; exact hd))) ho
  rw [upMo_self] at hr
  exact ⟨L', hr⟩
end
/-- The parent's writes, of which some have come. -/
structure PutAt (P : List Str) (p : Int) (xw ow : List (Str × Str)) (left : Str → Prop) (wr : List (Str × Str)) : Prop where
  a : AscK wr
  q : ∀ e ∈ wr, e.1 ∈ P
  g : ∀ j, kS.ok j → (left j → mget wr j = mget ow j) ∧ (¬ left j → mget wr j = over1 p (mget xw j) (mget ow j))
theorem PutAt.start {P : List Str} {p : Int} {xw ow : List (Str × Str)} (ho : AscK ow) (hp : ∀ e ∈ ow, e.1 ∈ P) : PutAt P p xw ow (fun j => (mget xw j).isSome = true) ow :=
  ⟨ho, hp, fun j _ => ⟨fun _ => rfl, fun h => by
    cases hm : mget xw j with
    | none => rfl
    | some v => exact absurd (show (mget xw j).isSome = true by rw [hm]; rfl) h⟩⟩
theorem mem_wrPut {p : Int} {k v : Str} {m : List (Str × Str)} {e : Str × Str} (h : e ∈ wrPut p k v m) : e.1 = k ∨ e ∈ m := by
  unfold wrPut at h
  split at h
  · exact .inr (List.mem_filter.1 h).1
  · rcases mem_mput h with rfl | h
    · exact .inl rfl
    · exact .inr h
theorem PutAt.step {P : List Str} {p : Int} {xw ow wr : List (Str × Str)} {left : Str → Prop} (h : PutAt P p xw ow left wr) {k v : Str} (hk : k ∈ P) (hv : mget xw k = some v) : PutAt P p xw ow (fun y => left y ∧ y ≠ k) (wrPut p k v wr) := by
  refine ⟨ascK_wrPut h.a _ _ _, fun e he => ?_, fun j hj => ?_⟩
  · rcases mem_wrPut he with h1 | h1
    · rw [h1]; exact hk
    · exact h.q e h1
  · rw [mget_wrPut h.a]
    obtain ⟨a, b⟩ := h.g j hj
    by_cases e : j = k
    · subst e
      rw [if_pos rfl]
      exact ⟨fun h => absurd rfl h.2, fun _ => by rw [hv]; rfl⟩
    · rw [if_neg e]
      exact ⟨fun h => a h.1, fun h => b (fun hl => h ⟨hl, e⟩)⟩
theorem PutAt.end_ {P : List Str} (hP : PoolOk P) {p : Int} {xw ow wr : List (Str × Str)} {left : Str → Prop} (h : PutAt P p xw ow left wr) (hx : AscK xw) (hxp : ∀ e ∈ xw, e.1 ∈ P) (ho : AscK ow) (hop : ∀ e ∈ ow, e.1 ∈ P) (hd : ∀ j, kS.ok j → ¬ left j) : wr = wrAll p xw ow := by
  refine ascK_ext h.a (ascK_wrAll p xw ho) fun j => ?_
  rw [mget_wrAll p hx ho]
  by_cases hj : kS.ok j
  · exact (h.g j hj).2 (hd j hj)
  · have e : ∀ m : List (Str × Str), (∀ e ∈ m, e.1 ∈ P) → mget m j = none := fun m hm => mget_none.2 (fun hh => by
      obtain ⟨e, he, rfl⟩ := List.mem_map.1 hh
      exact hj (hP.k _ (hm e he)))
    rw [e wr h.q, e xw hxp, e ow hop]
    rfl
/-- The parent's logs, of which some have come. -/
structure LogAt (P : List Str) (xl ol : List (Str × Str)) (left : Str → Prop) (lg : List (Str × Str)) : Prop where
  a : AscK lg
  p : ∀ e ∈ lg, e.1 ∈ P
  g : ∀ j, kS.ok j → (left j → mget lg j = mget ol j) ∧ (¬ left j → mget lg j = add1 (mget xl j) (mget ol j))
theorem LogAt.start {P : List Str} {xl ol : List (Str × Str)} (ho : AscK ol) (hp : ∀ e ∈ ol, e.1 ∈ P) : LogAt P xl ol (fun j => (mget xl j).isSome = true) ol :=
  ⟨ho, hp, fun j _ => ⟨fun _ => rfl, fun h => by
    cases hm : mget xl j with
    | none => rfl
    | some v => exact absurd (show (mget xl j).isSome = true by rw [hm]; rfl) h⟩⟩
theorem LogAt.step {P : List Str} {xl ol lg : List (Str × Str)} {left : Str → Prop} (h : LogAt P xl ol left lg) {k v : Str} (hk : k ∈ P) (hok : kS.ok k) (hl : left k) (hv : mget xl k = some v) : LogAt P xl ol (fun y => left y ∧ y ≠ k) (lgAdd k v lg) := by
  refine ⟨ascK_lgAdd h.a _ _, fun e he => ?_, fun j hj => ?_⟩
  · rcases mem_mput he with rfl | h1
    · exact hk
    · exact h.p e h1
  · rw [mget_lgAdd h.a]
    obtain ⟨a, b⟩ := h.g j hj
    by_cases e : j = k
    · subst e
      rw [if_pos rfl]
      exact ⟨fun h => absurd rfl h.2, fun _ => by rw [hv, (h.g j hok).1 hl]; rfl⟩
    · rw [if_neg e]
      exact ⟨fun h => a h.1, fun h => b (fun hl => h ⟨hl, e⟩)⟩
theorem LogAt.end_ {P : List Str} (hP : PoolOk P) {xl ol lg : List (Str × Str)} {left : Str → Prop} (h : LogAt P xl ol left lg) (hx : AscK xl) (hxp : ∀ e ∈ xl, e.1 ∈ P) (ho : AscK ol) (hop : ∀ e ∈ ol, e.1 ∈ P) (hd : ∀ j, kS.ok j → ¬ left j) : lg = lgAll xl ol := by
  refine ascK_ext h.a (ascK_lgAll xl ho) fun j => ?_
  rw [mget_lgAll hx ho]
  by_cases hj : kS.ok j
  · exact (h.g j hj).2 (hd j hj)
  · have e : ∀ m : List (Str × Str), (∀ e ∈ m, e.1 ∈ P) → mget m j = none := fun m hm => mget_none.2 (fun hh => by
      obtain ⟨e, he, rfl⟩ := List.mem_map.1 hh
      exact hj (hP.k _ (hm e he)))
    rw [e lg h.p, e xl hxp, e ol hop]
    rfl
theorem reAsk_snoc (C : St) (p : Int) (l : List Rd) (k : Nat) (hk : k < l.length) : reAsk C p (l.take (k + 1)) = reAsk1 p (reAsk C p (l.take k)) l[k] := by
  rw [List.take_succ_eq_append_getElem hk, reAsk_append]
  rfl
theorem find_reAsk_off {C : St} {p i : Int} {x : One} (hx : find C i = some x) (hp : p ≠ i) (l : List Rd) : find (reAsk C p l) i = some x := by
  rcases (Off.reAsk (i := i) hp l (C := C)).f with h | h
  · exact h.trans hx
  · rw [(grow_reAsk p l C).1, ← find_has, hx] at h
    cases h
end Go.Proofs.YtbllmpcpfmlemaaGreat
namespace Go.Proofs.YtbllmpcpfmlemaaGreat
open Go.RowKit
noncomputable def com10C : Code := ((Tryz.f43.body.bind (theRegion 10)).getD .skip)
set_option maxRecDepth 1000000 in
set_option maxHeartbeats 1600000 in
set_option linter.unusedSimpArgs false in
theorem com10_any (w : World) (xb pb rb : Nat) (k : Str) (R : World → Prop) (K : Exit → Act → World → Prop)
    (hS : ∀ W, Keeps [] w W → W.cell? ⟨xb, 0, none⟩ = some (.pointer (some ⟨pb, 0, none⟩)) ∧ W.cell? ⟨rb, 1, none⟩ = some (sv k))
    (hC : ∀ W, Keeps [] w W → Calls Tryz.prog 76 #[.pointer (some ⟨pb, 0, none⟩), sv k] W fun e w' => e = .returned (.tuple #[]) ∧ R w')
    (u0 u1 u2 u3 u4 u6 u8 u9 u10 u11 u12 u13 u14 u15 u16 u17 u18 u19 u20 u21 u22 u23 u24 u25 u26 u27 u28 u29 u30 u31 u32 u33 u34 u35 u36 u37 u38 u39 u40 u41 u42 u43 u44 u45 u46 u47 u48 u49 u50 u51 u52 u53 u54 u55 u56 u57 u58 u59 u60 u61 u62 u63 u64 u65 u66 u67 u68 u69 u70 u71 u72 u73 u74 u75 u76 u77 u78 u79 u80 u81 u82 u83 u84 u85 u86 u87 u88 u89 u90 u91 u92 u93 u94 u95 u96 u97 u98 u99 u100 u101 u102 : Value)
    (hK : ∀ (v46 v47 v48 v49 v50 v51 v52 : Value) (W : World), R W → K .normal ⟨#[u0, u1, u2, u3, u4, .pointer (some ⟨xb, 0, none⟩), u6, .pointer (some ⟨rb, 0, none⟩), u8, u9, u10, u11, u12, u13, u14, u15, u16, u17, u18, u19, u20, u21, u22, u23, u24, u25, u26, u27, u28, u29, u30, u31, u32, u33, u34, u35, u36, u37, u38, u39, u40, u41, u42, u43, u44, u45, v46, v47, v48, v49, v50, v51, v52, u53, u54, u55, u56, u57, u58, u59, u60, u61, u62, u63, u64, u65, u66, u67, u68, u69, u70, u71, u72, u73, u74, u75, u76, u77, u78, u79, u80, u81, u82, u83, u84, u85, u86, u87, u88, u89, u90, u91, u92, u93, u94, u95, u96, u97, u98, u99, u100, u101, u102], []⟩ W) :
    Code.wp Tryz.prog com10C K ⟨#[u0, u1, u2, u3, u4, .pointer (some ⟨xb, 0, none⟩), u6, .pointer (some ⟨rb, 0, none⟩), u8, u9, u10, u11, u12, u13, u14, u15, u16, u17, u18, u19, u20, u21, u22, u23, u24, u25, u26, u27, u28, u29, u30, u31, u32, u33, u34, u35, u36, u37, u38, u39, u40, u41, u42, u43, u44, u45, u46, u47, u48, u49, u50, u51, u52, u53, u54, u55, u56, u57, u58, u59, u60, u61, u62, u63, u64, u65, u66, u67, u68, u69, u70, u71, u72, u73, u74, u75, u76, u77, u78, u79, u80, u81, u82, u83, u84, u85, u86, u87, u88, u89, u90, u91, u92, u93, u94, u95, u96, u97, u98, u99, u100, u101, u102], []⟩ w := by
  have HS := Lib.hid hS
  have HC := Lib.hid hC
  clear hS hC
  conv => arg 2; whnf
  try dsimp only at hK ⊢
  refine wp_region_noPanic ?_
  refine wp_region_last (S := fun W => W.cell? ⟨xb, 0, none⟩ = some (.pointer (some ⟨pb, 0, none⟩)) ∧ W.cell? ⟨rb, 1, none⟩ = some (sv k)) 6 (by kernel_rfl) (HS.out _ ((Keeps.refl [] w).drew)) (fun hHeld => ?_)
  obtain ⟨w0, hw0⟩ : ∃ w0, w.drew = w0 := ⟨_, rfl⟩
  try rw [hw0] at hHeld
  rw [hw0]
  have K0 : Keeps [] w w0 := by rw [← hw0]; exact (Keeps.refl [] w).drew
  clear hw0
  refine wpG_take (nx := [1, 2, 3, 6, 5, 6]) (i := 0) (oi := ⟨some 46, .move (.tmp 5), 61, _, _, none⟩) (v := ?vq1) (by kernel_rfl) rfl (by decide) (by kernel_rfl) (by kernel_rfl) (by kernel_rfl) (fun _ _ _ h => h) (Or.inl ⟨by rfl, fun W hW => ?_⟩) (by assumption) ?_
  rotate_left
  · go_simp
    with_reducible rfl
  try simp only [Act.put, lA, l0, lS]
  refine wpG_take (nx := [1, 2, 3, 6, 5, 6]) (i := 1) (oi := ⟨some 47, .nilCheck (.tmp 46), 0, _, _, none⟩) (v := ?vq2) (by kernel_rfl) rfl (by decide) (by kernel_rfl) (by kernel_rfl) (by kernel_rfl) (fun _ _ _ h => h) (Or.inl ⟨by rfl, fun W hW => ?_⟩) (by assumption) ?_
  rotate_left
  · go_simp
    with_reducible rfl
  try simp only [Act.put, lA, l0, lS]
  refine wpG_take (nx := [1, 2, 3, 6, 5, 6]) (i := 2) (oi := ⟨some 48, .fieldAddr 77 (.tmp 47) 0, 0, _, _, none⟩) (v := ?vq3) (by kernel_rfl) rfl (by decide) (by kernel_rfl) (by kernel_rfl) (by kernel_rfl) (fun _ _ _ h => h) (Or.inl ⟨by rfl, fun W hW => ?_⟩) (by assumption) ?_
  rotate_left
  · go_simp
    with_reducible rfl
  try simp only [Act.put, lA, l0, lS]
  refine wpG_take (nx := [1, 2, 3, 6, 5, 6]) (i := 3) (oi := ⟨some 49, .load 61 (.tmp 48), 61, _, _, none⟩) (v := .pointer (some ⟨pb, 0, none⟩)) (by kernel_rfl) rfl (by decide) (by kernel_rfl) (by kernel_rfl) (by kernel_rfl) (fun _ _ _ h => h) (Or.inl ⟨by rfl, fun W hW => ?_⟩) (by assumption) ?_
  · (have a0 := hW.1; clear hW; go_simp)
  try simp only [Act.put, lA, l0, lS]
  refine wpG_take (nx := [1, 2, 3, 6, 5, 6]) (i := 4) (oi := ⟨some 50, .fieldAddr 34 (.tmp 7) 1, 0, _, _, none⟩) (v := ?vq4) (by kernel_rfl) rfl (by decide) (by kernel_rfl) (by kernel_rfl) (by kernel_rfl) (fun _ _ _ h => h) (Or.inl ⟨by rfl, fun W hW => ?_⟩) (by assumption) ?_
  rotate_left
  · go_simp
    with_reducible rfl
  try simp only [Act.put, lA, l0, lS]
  refine wpG_take (nx := [1, 2, 3, 6, 5, 6]) (i := 5) (oi := ⟨some 51, .load 9 (.tmp 50), 9, _, _, none⟩) (v := sv k) (by kernel_rfl) rfl (by decide) (by kernel_rfl) (by kernel_rfl) (by kernel_rfl) (fun _ _ _ h => h) (Or.inl ⟨by rfl, fun W hW => ?_⟩) (by assumption) ?_
  · (have a0 := hW.2; clear hW; go_simp)
  try simp only [Act.put, lA, l0, lS]
  refine wpG_ready (rs := [6]) (by kernel_rfl) (by simp) ?_
  refine AllG.last (o := ⟨some 52, .call { callee := .value (.func 76), args := #[.tmp 49, .tmp 51], argTypes := #[61, 9] }, 0, _, _, none⟩) rfl (fun KK hKK => ?_)
  refine step_callW (by rfl) 76 _ _ rfl #[.pointer (some ⟨pb, 0, none⟩), sv k] (by first | (simp [Act.eval]; done) | (simp [Act.eval, Act.put]; done)) (enters_of Tryz.func76 (by kernel_rfl) rfl) (HC.out _ K0) ?_
  rintro e W9 ⟨rfl, hr⟩
  refine ⟨_, rfl, ?_⟩
  refine hKK.out _ _ ?_
  clear hKK KK hHeld
  try simp only [Act.put, lA, l0, lS]
  refine wpG_done (by kernel_rfl) ?_ _
  refine NoPanic.normal ?_
  exact hK _ _ _ _ _ _ _ _ hr
noncomputable def com11C : Code := ((Tryz.f43.body.bind (theRegion 11)).getD .skip)
set_option maxRecDepth 1000000 in
set_option maxHeartbeats 1600000 in
set_option linter.unusedSimpArgs false in
theorem com11_any (w : World) (xb pb rb : Nat) (k : Str) (R : World → Prop) (K : Exit → Act → World → Prop)
    (hS : ∀ W, Keeps [] w W → W.cell? ⟨xb, 0, none⟩ = some (.pointer (some ⟨pb, 0, none⟩)) ∧ W.cell? ⟨rb, 1, none⟩ = some (sv k))
    (hC : ∀ W, Keeps [] w W → Calls Tryz.prog 77 #[.pointer (some ⟨pb, 0, none⟩), sv k] W fun e w' => e = .returned (.tuple #[]) ∧ R w')
    (u0 u1 u2 u3 u4 u6 u8 u9 u10 u11 u12 u13 u14 u15 u16 u17 u18 u19 u20 u21 u22 u23 u24 u25 u26 u27 u28 u29 u30 u31 u32 u33 u34 u35 u36 u37 u38 u39 u40 u41 u42 u43 u44 u45 u46 u47 u48 u49 u50 u51 u52 u53 u54 u55 u56 u57 u58 u59 u60 u61 u62 u63 u64 u65 u66 u67 u68 u69 u70 u71 u72 u73 u74 u75 u76 u77 u78 u79 u80 u81 u82 u83 u84 u85 u86 u87 u88 u89 u90 u91 u92 u93 u94 u95 u96 u97 u98 u99 u100 u101 u102 : Value)
    (hK : ∀ (v53 v54 v55 v56 v57 v58 v59 : Value) (W : World), R W → K .normal ⟨#[u0, u1, u2, u3, u4, .pointer (some ⟨xb, 0, none⟩), u6, .pointer (some ⟨rb, 0, none⟩), u8, u9, u10, u11, u12, u13, u14, u15, u16, u17, u18, u19, u20, u21, u22, u23, u24, u25, u26, u27, u28, u29, u30, u31, u32, u33, u34, u35, u36, u37, u38, u39, u40, u41, u42, u43, u44, u45, u46, u47, u48, u49, u50, u51, u52, v53, v54, v55, v56, v57, v58, v59, u60, u61, u62, u63, u64, u65, u66, u67, u68, u69, u70, u71, u72, u73, u74, u75, u76, u77, u78, u79, u80, u81, u82, u83, u84, u85, u86, u87, u88, u89, u90, u91, u92, u93, u94, u95, u96, u97, u98, u99, u100, u101, u102], []⟩ W) :
    Code.wp Tryz.prog com11C K ⟨#[u0, u1, u2, u3, u4, .pointer (some ⟨xb, 0, none⟩), u6, .pointer (some ⟨rb, 0, none⟩), u8, u9, u10, u11, u12, u13, u14, u15, u16, u17, u18, u19, u20, u21, u22, u23, u24, u25, u26, u27, u28, u29, u30, u31, u32, u33, u34, u35, u36, u37, u38, u39, u40, u41, u42, u43, u44, u45, u46, u47, u48, u49, u50, u51, u52, u53, u54, u55, u56, u57, u58, u59, u60, u61, u62, u63, u64, u65, u66, u67, u68, u69, u70, u71, u72, u73, u74, u75, u76, u77, u78, u79, u80, u81, u82, u83, u84, u85, u86, u87, u88, u89, u90, u91, u92, u93, u94, u95, u96, u97, u98, u99, u100, u101, u102], []⟩ w := by
  have HS := Lib.hid hS
  have HC := Lib.hid hC
  clear hS hC
  conv => arg 2; whnf
  try dsimp only at hK ⊢
  refine wp_region_noPanic ?_
  refine wp_region_last (S := fun W => W.cell? ⟨xb, 0, none⟩ = some (.pointer (some ⟨pb, 0, none⟩)) ∧ W.cell? ⟨rb, 1, none⟩ = some (sv k)) 6 (by kernel_rfl) (HS.out _ ((Keeps.refl [] w).drew)) (fun hHeld => ?_)
  obtain ⟨w0, hw0⟩ : ∃ w0, w.drew = w0 := ⟨_, rfl⟩
  try rw [hw0] at hHeld
  rw [hw0]
  have K0 : Keeps [] w w0 := by rw [← hw0]; exact (Keeps.refl [] w).drew
  clear hw0
  refine wpG_take (nx := [1, 2, 3, 6, 5, 6]) (i := 0) (oi := ⟨some 53, .move (.tmp 5), 61, _, _, none⟩) (v := ?vq5) (by kernel_rfl) rfl (by decide) (by kernel_rfl) (by kernel_rfl) (by kernel_rfl) (fun _ _ _ h => h) (Or.inl ⟨by rfl, fun W hW => ?_⟩) (by assumption) ?_
  rotate_left
  · go_simp
    with_reducible rfl
  try simp only [Act.put, lA, l0, lS]
  refine wpG_take (nx := [1, 2, 3, 6, 5, 6]) (i := 1) (oi := ⟨some 54, .nilCheck (.tmp 53), 0, _, _, none⟩) (v := ?vq6) (by kernel_rfl) rfl (by decide) (by kernel_rfl) (by kernel_rfl) (by kernel_rfl) (fun _ _ _ h => h) (Or.inl ⟨by rfl, fun W hW => ?_⟩) (by assumption) ?_
  rotate_left
  · go_simp
    with_reducible rfl
  try simp only [Act.put, lA, l0, lS]
  refine wpG_take (nx := [1, 2, 3, 6, 5, 6]) (i := 2) (oi := ⟨some 55, .fieldAddr 77 (.tmp 54) 0, 0, _, _, none⟩) (v := ?vq7) (by kernel_rfl) rfl (by decide) (by kernel_rfl) (by kernel_rfl) (by kernel_rfl) (fun _ _ _ h => h) (Or.inl ⟨by rfl, fun W hW => ?_⟩) (by assumption) ?_
  rotate_left
  · go_simp
    with_reducible rfl
  try simp only [Act.put, lA, l0, lS]
  refine wpG_take (nx := [1, 2, 3, 6, 5, 6]) (i := 3) (oi := ⟨some 56, .load 61 (.tmp 55), 61, _, _, none⟩) (v := .pointer (some ⟨pb, 0, none⟩)) (by kernel_rfl) rfl (by decide) (by kernel_rfl) (by kernel_rfl) (by kernel_rfl) (fun _ _ _ h => h) (Or.inl ⟨by rfl, fun W hW => ?_⟩) (by assumption) ?_
  · (have a0 := hW.1; clear hW; go_simp)
  try simp only [Act.put, lA, l0, lS]
  refine wpG_take (nx := [1, 2, 3, 6, 5, 6]) (i := 4) (oi := ⟨some 57, .fieldAddr 34 (.tmp 7) 1, 0, _, _, none⟩) (v := ?vq8) (by kernel_rfl) rfl (by decide) (by kernel_rfl) (by kernel_rfl) (by kernel_rfl) (fun _ _ _ h => h) (Or.inl ⟨by rfl, fun W hW => ?_⟩) (by assumption) ?_
  rotate_left
  · go_simp
    with_reducible rfl
  try simp only [Act.put, lA, l0, lS]
  refine wpG_take (nx := [1, 2, 3, 6, 5, 6]) (i := 5) (oi := ⟨some 58, .load 9 (.tmp 57), 9, _, _, none⟩) (v := sv k) (by kernel_rfl) rfl (by decide) (by kernel_rfl) (by kernel_rfl) (by kernel_rfl) (fun _ _ _ h => h) (Or.inl ⟨by rfl, fun W hW => ?_⟩) (by assumption) ?_
  · (have a0 := hW.2; clear hW; go_simp)
  try simp only [Act.put, lA, l0, lS]
  refine wpG_ready (rs := [6]) (by kernel_rfl) (by simp) ?_
  refine AllG.last (o := ⟨some 59, .call { callee := .value (.func 77), args := #[.tmp 56, .tmp 58], argTypes := #[61, 9] }, 0, _, _, none⟩) rfl (fun KK hKK => ?_)
  refine step_callW (by rfl) 77 _ _ rfl #[.pointer (some ⟨pb, 0, none⟩), sv k] (by first | (simp [Act.eval]; done) | (simp [Act.eval, Act.put]; done)) (enters_of Tryz.func77 (by kernel_rfl) rfl) (HC.out _ K0) ?_
  rintro e W9 ⟨rfl, hr⟩
  refine ⟨_, rfl, ?_⟩
  refine hKK.out _ _ ?_
  clear hKK KK hHeld
  try simp only [Act.put, lA, l0, lS]
  refine wpG_done (by kernel_rfl) ?_ _
  refine NoPanic.normal ?_
  exact hK _ _ _ _ _ _ _ _ hr
end Go.Proofs.YtbllmpcpfmlemaaGreat
