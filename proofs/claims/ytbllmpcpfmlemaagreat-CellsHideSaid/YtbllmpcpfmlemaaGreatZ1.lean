/- Sees, SeesKeys, Names, Reads. -/
import Derived.Test.YtbllmpcpfmlemaaGreatMW
namespace Go.Proofs.YtbllmpcpfmlemaaGreat
open Go.RowKit

section
variable {w : World} {c : Nat} {F G : List Nat} {C : St} {P : List Str}
set_option maxRecDepth 100000 in
set_option maxHeartbeats 1600000 in
theorem seesOp_any (h : Cs w c F G C) (hW : WF P C) {i : Int} (hi : I64 i) (k : Str) (hok : kS.ok k) :
    Calls Tryz.prog 16 #[.pointer (some ⟨c, 0, none⟩), .int .i64 i, sv k] w fun e w' => e = .returned (sv (sees C i k)) ∧ w' = w := by
  obtain ⟨m, Mo, L, h⟩ := h
  have f0 : w.cell? ⟨c, 0, none⟩ = some (.map (some m)) := h.cb.cell 0
  have l0 := h.look hi.1 hi.2
  cases hh : has C i with
  | false =>
    rw [sees_none hh]
    simp only [hh] at l0
    have l0' : (Instr.lookup 63 (.map (some m)) (.int .i64 i) false).run Tryz.prog w = .ok (.pointer none) w := l0
    clear h l0 hh hi
    go_enter Tryz.func16, Tryz.ntmps16
    go_wp2_with fail
    go_ret
    exact ⟨rfl, rfl⟩
  | true =>
    obtain ⟨x, hx⟩ := has_find hh
    obtain ⟨hxC, hxi⟩ := find_mem hx
    simp only [hh, if_true] at l0
    have l0' : (Instr.lookup 63 (.map (some m)) (.int .i64 i) false).run Tryz.prog w = .ok (.pointer (some ⟨(Mo i).b, 0, none⟩)) w := l0
    have hs := sees_any h hW.tree hxC k hok
    rw [hxi] at hs
    obtain ⟨v, hv⟩ : ∃ v, sees C i k = v := ⟨_, rfl⟩
    rw [hv] at hs ⊢
    have HS : Hid (Calls Tryz.prog 56 #[.pointer (some ⟨(Mo i).b, 0, none⟩), sv k] w fun e w' => e = .returned (sv v) ∧ w' = w) := Lib.hid hs
    generalize (Mo i).b = xb at l0' HS
    clear h l0 hh hi hW hx hxC hxi hs hv
    go_enter Tryz.func16, Tryz.ntmps16
    go_wp2_with fail
    refine HS.out.mono ?_
    rintro e w2 ⟨rfl, rfl⟩
    go_wp2_with fail
    go_ret
    exact ⟨rfl, rfl⟩
set_option maxRecDepth 100000 in
set_option maxHeartbeats 1600000 in
theorem seesKeysOp_any (h : Cs w c F G C) (hW : WF P C) (hP : PoolOk P) {i : Int} (hi : I64 i) (k : Str) (hok : kS.ok k) :
    Calls Tryz.prog 18 #[.pointer (some ⟨c, 0, none⟩), .int .i64 i, sv k] w fun e w' => (∃ v, e = .returned v ∧ w'.ownsRow 0 9 1 v (seesKeys C i k).length (vs (seesKeys C i k)) ∧ ∀ g ∈ fp v, w.heap.size ≤ g) ∧ Keeps [] w w' := by
  obtain ⟨m, Mo, L, h⟩ := h
  have f0 : w.cell? ⟨c, 0, none⟩ = some (.map (some m)) := h.cb.cell 0
  have l0 := h.look hi.1 hi.2
  cases hh : has C i with
  | false =>
    rw [seesKeys_none hh]
    simp only [hh] at l0
    have l0' : (Instr.lookup 63 (.map (some m)) (.int .i64 i) false).run Tryz.prog w = .ok (.pointer none) w := l0
    clear h l0 hh hi hW hP
    go_enter Tryz.func18, Tryz.ntmps18
    go_wp2_with fail
    go_ret
    exact ⟨⟨_, rfl, World.ownsRow_nil _ _ _ _, by simp⟩, Keeps.refl _ _⟩
  | true =>
    obtain ⟨x, hx⟩ := has_find hh
    obtain ⟨hxC, hxi⟩ := find_mem hx
    simp only [hh, if_true] at l0
    have l0' : (Instr.lookup 63 (.map (some m)) (.int .i64 i) false).run Tryz.prog w = .ok (.pointer (some ⟨(Mo i).b, 0, none⟩)) w := l0
    have hs := seesKeys_any h hW hP hxC k hok
    rw [hxi] at hs
    obtain ⟨q, hq⟩ : ∃ q, seesKeys C i k = q := ⟨_, rfl⟩
    rw [hq] at hs ⊢
    have HS : Hid (Calls Tryz.prog 58 #[.pointer (some ⟨(Mo i).b, 0, none⟩), sv k] w fun e w' => ∃ v, e = .returned v ∧ w'.ownsRow 0 9 1 v q.length (vs q) ∧ Keeps [] w w' ∧ ∀ g ∈ fp v, w.heap.size ≤ g) := Lib.hid hs
    generalize (Mo i).b = xb at l0' HS
    clear h l0 hh hi hW hP hx hxC hxi hs hq
    go_enter Tryz.func18, Tryz.ntmps18
    go_wp2_with fail
    refine HS.out.mono ?_
    rintro e w2 ⟨v, rfl, h1, h2, h3⟩
    have H1 := Lib.hid h1
    have H2 := Lib.hid h2
    have H3 := Lib.hid h3
    clear h1 h2 h3
    go_wp2_with fail
    go_ret
    exact ⟨⟨_, rfl, H1.out, H3.out⟩, H2.out⟩
def namesP (C : St) (i : Int) : List Str := match find C i with
  | none => []
  | some x => x.lg.map (·.1)
set_option maxRecDepth 100000 in
set_option maxHeartbeats 3200000 in
theorem names_any (h : Cs w c F G C) (hW : WF P C) (hP : PoolOk P) {i : Int} (hi : I64 i) :
    Calls Tryz.prog 30 #[.pointer (some ⟨c, 0, none⟩), .int .i64 i] w fun e w' => (∃ v, e = .returned v ∧ w'.ownsRow 0 9 1 v (namesP C i).length (vs (namesP C i)) ∧ ∀ g ∈ fp v, w.heap.size ≤ g) ∧ Keeps [] w w' := by
  obtain ⟨m, Mo, L, h⟩ := h
  have f0 : w.cell? ⟨c, 0, none⟩ = some (.map (some m)) := h.cb.cell 0
  have l0 := h.look hi.1 hi.2
  cases hh : has C i with
  | false =>
    have e0 : namesP C i = [] := by unfold namesP; rw [find_none.2 hh]
    rw [e0]
    simp only [hh] at l0
    have l0' : (Instr.lookup 63 (.map (some m)) (.int .i64 i) false).run Tryz.prog w = .ok (.pointer none) w := l0
    clear h l0 hh hi e0 hW hP
    go_enter Tryz.func30, Tryz.ntmps30
    go_wp2_with fail
    go_ret
    exact ⟨⟨_, rfl, World.ownsRow_nil _ _ _ _, by simp⟩, Keeps.refl _ _⟩
  | true =>
    obtain ⟨x, hx⟩ := has_find hh
    obtain ⟨hxC, hxi⟩ := find_mem hx
    obtain ⟨o, hlab⟩ := h.at_ hx
    simp only [hh, if_true] at l0
    have l0' : (Instr.lookup 63 (.map (some m)) (.int .i64 i) false).run Tryz.prog w = .ok (.pointer (some ⟨(Mo i).b, 0, none⟩)) w := l0
    have e0 : namesP C i = x.lg.map (·.1) := by unfold namesP; rw [hx]
    rw [e0]
    have f3 : w.cell? ⟨(Mo i).b, 3, none⟩ = some (.map (some (Mo i).ml)) := o.b.cell 3
    have HLM := Lib.hid o.l
    have hasc := (hW.ok x hxC).lg
    have hln : x.lg.length ≤ 1000000 := hP.leK hasc (hW.ok x hxC).lp
    have HASC := Lib.hid hasc
    have HKP : Hid (∀ e ∈ x.lg, kS.ok e.1) := Lib.hid (fun e he => hP.k _ ((hW.ok x hxC).lp e he))
    generalize hwr : x.lg = W0 at HLM hasc HASC HKP hln ⊢
    generalize hMb : (Mo i).b = xb at l0' f3
    generalize hMw : (Mo i).ml = mw at f3 HLM
    clear h l0 hh hi e0 o hlab hx hxi hxC hasc hwr hMb hMw hW hP
    have KA : Hid (Keeps [] w (w.alloc (.cells #[.map (some mw)] 74))) := Lib.hid ((Keeps.refl [] w).alloc _)
    have BA := Lib.hid (Blk.new w 74 #[.map (some mw)])
    have GA := Lib.hid (HLM.out.keep KA.out (by simp))
    go_enter Tryz.func30, Tryz.ntmps30
    go_wp2_with fail
    refine (keysS_any (some mw) w).mono ?_
    rintro e w1 ⟨rfl, rfl⟩
    go_wp2_with fail
    refine (sortedGS _ mw _ _ _ GA.out (by omega) BA.out).mono ?_
    rintro e w2 ⟨v, ss, rfl, s1, s2, -, s4, s5, s6⟩
    have e1 : ss = W0.map (·.1) := by
      refine asc_ext s1 HASC.out (fun y => ?_)
      rw [s2, ← mget_some]
      constructor
      · exact fun h => h.2
      · intro h
        obtain ⟨e, he, rfl⟩ := List.mem_map.1 (mget_some.1 h)
        exact ⟨HKP.out e he, h⟩
    subst e1
    have H4 := Lib.hid s4
    have H5 := Lib.hid (KA.out.trans s5 (by simp))
    have H6 : Hid (∀ g ∈ fp v, w.heap.size ≤ g) := Lib.hid (fun g hg => Nat.le_trans KA.out.size (s6 g hg))
    clear s1 s2 s4 s5 s6
    go_wp2_with fail
    go_ret
    exact ⟨⟨_, rfl, H4.out, H6.out⟩, H5.out⟩
end
end Go.Proofs.YtbllmpcpfmlemaaGreat
