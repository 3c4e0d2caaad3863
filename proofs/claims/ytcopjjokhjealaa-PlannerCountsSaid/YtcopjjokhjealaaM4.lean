/- The texts W17, W18, W19, W20, W21 in one. -/
import Derived.Test.YtcopjjokhjealaaM3
import Derived.Laws.Externs
import Derived.MapKept
namespace Go.Proofs.Ytcopjjokhjealaa
open Go.RowKit

theorem own_opt {w : World} {e size n : Nat} {v : Value} {xs : List Value} (h : w.ownsRow 0 e size v n xs) : ∃ (g : Option Nat) (c : Nat), v = .slice (g.map fun g => ⟨g, 0, none⟩) n c ∧ True := by
  rcases h.2 with ⟨rfl, rfl⟩ | ⟨g, cap, cur, rfl, _⟩
  · exact ⟨none, 0, rfl, trivial⟩
  · exact ⟨some g, cap, rfl, trivial⟩
noncomputable def new4C : Code := ((Try.f8.body.bind (theRegion 4)).getD .skip)
set_option maxRecDepth 1000000 in
set_option maxHeartbeats 1600000 in
set_option linter.unusedSimpArgs false in
theorem new4_any (w : World) (p lm c : Nat) (A : Option Addr) (L : List Int) (K : Exit → Act → World → Prop)
    (hS : ∀ W, Keeps [] w W → W.cell? ⟨p, 0, none⟩ = some (.map (some lm)) ∧ GMap kI eL W lm 0 (fun _ => none))
    (hZ : ∀ W, Keeps [] w W → AtZ W A L)
    (u1 u2 u4 u5 u6 u7 u8 u9 u10 u11 u12 u13 u14 u15 : Value)
    (hK : ∀ (v8 v9 v10 v11 v12 v13 v14 : Value) (g : Option Nat) (ci : Nat) (W1 W : World), Keeps [] w W1 → W1.ownsRow 0 3 1 (.slice (g.map fun g => ⟨g, 0, none⟩) L.length ci) L.length (zs L) → GMap kI eL W lm 1 (updG (fun _ => none) 0 (some ⟨0, 0, 1, g, L.length, ci⟩)) → Keeps [lm] W1 W → K .normal ⟨#[.slice A L.length c, u1, u2, .pointer (some ⟨p, 0, none⟩), u4, u5, u6, u7, v8, v9, v10, v11, v12, v13, v14, u15], []⟩ W) :
    Code.wp Try.prog new4C K ⟨#[.slice A L.length c, u1, u2, .pointer (some ⟨p, 0, none⟩), u4, u5, u6, u7, u8, u9, u10, u11, u12, u13, u14, u15], []⟩ w := by
  have HS := Lib.hid hS
  have HZ := Lib.hid hZ
  clear hS hZ
  conv => arg 2; whnf
  try dsimp only at hK ⊢
  refine wp_region_noPanic ?_
  refine wp_region_last (S := fun W => W.cell? ⟨p, 0, none⟩ = some (.map (some lm)) ∧ GMap kI eL W lm 0 (fun _ => none)) 7 (by kernel_rfl) (HS.out _ ((Keeps.refl [] w).drew)) (fun hHeld => ?_)
  obtain ⟨w0, hw0⟩ : ∃ w0, w.drew = w0 := ⟨_, rfl⟩
  try rw [hw0] at hHeld
  rw [hw0]
  have K0 : Keeps [] w w0 := by rw [← hw0]; exact (Keeps.refl [] w).drew
  clear hw0
  refine wpG_take (nx := [1, 2, 3, 7, 5, 6, 7]) (i := 0) (oi := ⟨some 8, Op.move (Operand.tmp 3), 26, _, _, none⟩) (v := ?vq1) (by kernel_rfl) rfl (by decide) (by kernel_rfl) (by kernel_rfl) (by kernel_rfl) (fun _ _ _ h => h) (Or.inl ⟨by rfl, fun W hW => ?_⟩) (by assumption) ?_
  rotate_left
  · go_simp
    with_reducible rfl
  try simp only [Act.put, List.setIfInBounds_toArray, List.set_cons_zero, List.set_cons_succ]
  refine wpG_take (nx := [1, 2, 3, 7, 5, 6, 7]) (i := 1) (oi := ⟨some 9, Op.nilCheck (Operand.tmp 8), 0, _, _, none⟩) (v := ?vq2) (by kernel_rfl) rfl (by decide) (by kernel_rfl) (by kernel_rfl) (by kernel_rfl) (fun _ _ _ h => h) (Or.inl ⟨by rfl, fun W hW => ?_⟩) (by assumption) ?_
  rotate_left
  · go_simp
    with_reducible rfl
  try simp only [Act.put, List.setIfInBounds_toArray, List.set_cons_zero, List.set_cons_succ]
  refine wpG_take (nx := [1, 2, 3, 7, 5, 6, 7]) (i := 2) (oi := ⟨some 10, Op.fieldAddr 70 (Operand.tmp 9) 0, 0, _, _, none⟩) (v := ?vq3) (by kernel_rfl) rfl (by decide) (by kernel_rfl) (by kernel_rfl) (by kernel_rfl) (fun _ _ _ h => h) (Or.inl ⟨by rfl, fun W hW => ?_⟩) (by assumption) ?_
  rotate_left
  · go_simp
    with_reducible rfl
  try simp only [Act.put, List.setIfInBounds_toArray, List.set_cons_zero, List.set_cons_succ]
  refine wpG_take (nx := [1, 2, 3, 7, 5, 6, 7]) (i := 3) (oi := ⟨some 11, Op.load 67 (Operand.tmp 10), 67, _, _, none⟩) (v := .map (some lm)) (by kernel_rfl) rfl (by decide) (by kernel_rfl) (by kernel_rfl) (by kernel_rfl) (fun _ _ _ h => h) (Or.inl ⟨by rfl, fun W hW => ?_⟩) (by assumption) ?_
  · (have a0 := hW.1; clear hW; go_simp)
  try simp only [Act.put, List.setIfInBounds_toArray, List.set_cons_zero, List.set_cons_succ]
  refine wpG_take (nx := [1, 2, 3, 7, 5, 6, 7]) (i := 4) (oi := ⟨some 12, Op.move (Operand.tmp 0), 22, _, _, none⟩) (v := ?vq4) (by kernel_rfl) rfl (by decide) (by kernel_rfl) (by kernel_rfl) (by kernel_rfl) (fun _ _ _ h => h) (Or.inl ⟨by rfl, fun W hW => ?_⟩) (by assumption) ?_
  rotate_left
  · go_simp
    with_reducible rfl
  try simp only [Act.put, List.setIfInBounds_toArray, List.set_cons_zero, List.set_cons_succ]
  refine wpG_ready (rs := [5]) (by kernel_rfl) (by simp) ?_
  refine AllG.cons (o := ⟨some 13, Op.call { callee := Callee.value (Operand.func 31), args := #[Operand.tmp 12], argTypes := #[22] }, 22, _, _, none⟩) rfl (fun KK hKK => ?_) AllG.nil
  refine step_callW (by rfl) 31 _ _ rfl #[.slice A L.length c] (by first | (simp [Act.eval]; done) | (simp [Act.eval, Act.put]; done)) (enters_of Try.func31 (by kernel_rfl) rfl) (cloneI_any _ A L c (HZ.out _ K0)) ?_
  rintro e W5 ⟨v6, rfl, o7, k8, f9⟩
  refine ⟨_, rfl, ?_⟩
  have K10 : Keeps [] w W5 := K0.trans k8 (by simp)
  obtain ⟨g11, c12, hvv6, hsv6⟩ := own_opt o7
  subst hvv6
  refine hKK.out _ _ (HS.out _ K10) (fun hHeld => ?_)
  clear hKK KK
  try simp only [Act.put, List.setIfInBounds_toArray, List.set_cons_zero, List.set_cons_succ]
  refine wpG_take (nx := [1, 2, 3, 7, 5, 6, 7]) (i := 6) (oi := ⟨some 14, Op.build 66 #[(2, Operand.const (Value.int IntKind.i64 1)), (3, Operand.tmp 13)], 66, _, _, none⟩) (v := .agg #[.int .i64 0, .int .i64 0, .int .i64 1, .slice (g11.map fun g => ⟨g, 0, none⟩) L.length c12]) (by kernel_rfl) rfl (by decide) (by kernel_rfl) (by kernel_rfl) (by kernel_rfl) (fun _ _ _ h => h) (Or.inl ⟨by rfl, fun W hW => ?_⟩) (by assumption) ?_
  · go_simp
  try simp only [Act.put, List.setIfInBounds_toArray, List.set_cons_zero, List.set_cons_succ]
  refine wpG_ready (rs := [7]) (by kernel_rfl) (by simp) ?_
  refine AllG.last (o := ⟨none, Op.mapUpdate 67 (Operand.tmp 11) (Operand.const (Value.int IntKind.i64 0)) (Operand.tmp 14), 0, _, _, none⟩) rfl (fun KK hKK => ?_)
  refine step_updG (S := kI) (E := eL) rfl _ _ _ 67 rfl Try.underlying67 lm 0 (fun _ => none) (by first | (simp [Act.eval]; done) | (simp [Act.eval, Act.put]; done)) (HS.out _ K10).2 (by unfold maxLen; omega) 0 ⟨0, 0, 1, g11, L.length, c12⟩ (show _ = Value.int .i64 0 by first | (simp [Act.eval]; done) | (simp [Act.eval, Act.put]; done)) (show _ = Value.agg #[.int .i64 0, .int .i64 0, .int .i64 1, .slice (g11.map fun g => ⟨g, 0, none⟩) L.length c12] by first | (simp [Act.eval]; done) | (simp [Act.eval, Act.put]; done)) (kI_ok (by omega) (by omega)) ?_
  intro W13 mo14 k15
  refine hKK.out _ _ ?_
  clear hKK KK
  try simp only [Act.put, List.setIfInBounds_toArray, List.set_cons_zero, List.set_cons_succ]
  refine wpG_done (by kernel_rfl) ?_ _
  refine NoPanic.normal ?_
  exact hK _ _ _ _ _ _ _ g11 c12 _ _ K10 o7 mo14 k15
end Go.Proofs.Ytcopjjokhjealaa
namespace Go.Proofs.Ytcopjjokhjealaa
open Go.RowKit

noncomputable def newF (it : List Int) : Int → Option Ln := updG (fun _ => none) 0 (some ⟨0, 1, it⟩)
noncomputable def newS (L : List Int) : Pl := ⟨newF (if rightL L then L else []), [], fun _ => none⟩
theorem new_rep {w1 W1 W : World} {p lm cm ci : Nat} {g : Option Nat} {L : List Int} (hb : Blk w1 p 70 #[.map (some lm), .slice none 0 0, .map (some cm)]) (hc : GMap kP eC w1 cm 0 (fun _ => none)) (hlc : lm ≠ cm) (hl : GMap kI eL w1 lm 0 (fun _ => none)) (k1 : Keeps [] w1 W1)
    (ho : W1.ownsRow 0 3 1 (.slice (g.map fun g => ⟨g, 0, none⟩) L.length ci) L.length (zs L)) (hm : GMap kI eL W lm 1 (updG (fun _ => none) 0 (some ⟨0, 0, 1, g, L.length, ci⟩))) (k2 : Keeps [lm] W1 W) :
    PlAt W [p, lm, cm] p ⟨newF L, [], fun _ => none⟩ lm cm 1 0 none 0 (updG (fun _ => none) 0 (some ⟨0, 0, 1, g, L.length, ci⟩)) := by
  have hpl : p ≠ lm := fun e => hl.ne_blk hb e.symm
  have hlm := hl.keep k1 (by simp)
  refine ⟨by simp [fp, Value.ownBlock], (hb.keep k1 (by simp)).keep k2 (by simpa using hpl), hm, (hc.keep k1 (by simp)).keep k2 (by simpa using hlc.symm), hlc, World.ownsRow_nil _ _ _ _, fun x => ?_⟩
  unfold newF updG
  dsimp only
  by_cases hx : x = 0
  · subst hx
    rw [if_pos rfl, if_pos rfl]
    exact .inr ⟨_, _, rfl, rfl, rfl, rfl, rfl, rfl, own_keep ho k2 (fun y hy hyl => by
      have : y = lm := by simpa using hyl
      subst this
      exact hlm.off ho hy)⟩
  · rw [if_neg hx, if_neg hx]
    exact .inl ⟨rfl, rfl⟩
set_option maxRecDepth 100000 in
set_option maxHeartbeats 3200000 in
theorem new_any (w : World) (A : Option Addr) (L : List Int) (c : Nat) (ha : AtZ w A L) (hr : ∀ x ∈ L, -9223372036854775808 ≤ x ∧ x ≤ 9223372036854775807) :
    Calls Try.prog 8 #[.slice A L.length c] w fun e w' => ∃ F p lm cm f, e = .returned (.pointer (some ⟨p, 0, none⟩)) ∧ PlAt w' F p (newS L) lm cm 1 0 none 0 f ∧ Keeps [] w w' ∧ ∀ g ∈ F, w.heap.size ≤ g := by
  have HA := Lib.hid ha
  have HR := Lib.hid (right_any w A L c ha hr)
  obtain ⟨V, hV⟩ : ∃ V, rightL L = V := ⟨_, rfl⟩
  rw [hV] at HR
  have eS : Hid (newS L = ⟨newF (cond V L []), [], fun _ => none⟩) := Lib.hid (by unfold newS; rw [hV]; cases V <;> rfl)
  clear ha hr hV
  go_enter Try.func8, Try.ntmps8
  go_wp2_with fail
  refine HR.out.mono ?_
  rintro e w1 ⟨rfl, k1⟩
  have K1 := Lib.hid k1
  clear k1 HR
  cases V with
  | true =>
    go_wp2_with fail
    refine (empty_any w1).mono ?_
    rintro e w2 ⟨p, lm, cm, rfl, hb, hl, hc, hlc, k2, hp, hlm, hcm⟩
    have hs := K1.out.size
    go_upto_region 4 with fail
    refine new4_any w2 p lm c A L _ (fun W k => ⟨(hb.keep k (by simp)).cell 0, hl.keep k (by simp)⟩) (fun W k => HA.out.keep ((K1.out.trans k2 (by simp)).trans k (by simp))) _ _ _ _ _ _ _ _ _ _ _ _ _ _ ?_
    intro v8 v9 v10 v11 v12 v13 v14 g ci W1 W kw1 ho hm kw2
    have FIN := Lib.hid (new_rep hb hc hlc hl kw1 ho hm kw2)
    have KF : Hid (Keeps [] w W) := Lib.hid (((K1.out.trans k2 (by simp)).trans kw1 (by simp)).trans kw2 (fun y hy => .inr (by have h := List.mem_singleton.1 hy; omega)))
    have HG : Hid (∀ y ∈ [p, lm, cm], w.heap.size ≤ y) := Lib.hid (fun y hy => by simp at hy; omega)
    clear hb hl hc k2 ho hm kw1 kw2 hp hlm hcm hs hlc
    go_wp2_with fail
    go_ret
    exact ⟨_, p, lm, cm, _, rfl, by rw [eS.out]; exact FIN.out, KF.out, HG.out⟩
  | false =>
    go_wp2_with fail
    refine (empty_any w1).mono ?_
    rintro e w2 ⟨p, lm, cm, rfl, hb, hl, hc, hlc, k2, hp, hlm, hcm⟩
    have hs := K1.out.size
    go_upto_region 4 with fail
    refine new4_any w2 p lm 0 none [] _ (fun W k => ⟨(hb.keep k (by simp)).cell 0, hl.keep k (by simp)⟩) (fun W k => ⟨fun h => absurd h (by simp), by simp⟩) _ _ _ _ _ _ _ _ _ _ _ _ _ _ ?_
    intro v8 v9 v10 v11 v12 v13 v14 g ci W1 W kw1 ho hm kw2
    have FIN := Lib.hid (new_rep hb hc hlc hl kw1 ho hm kw2)
    have KF : Hid (Keeps [] w W) := Lib.hid (((K1.out.trans k2 (by simp)).trans kw1 (by simp)).trans kw2 (fun y hy => .inr (by have h := List.mem_singleton.1 hy; omega)))
    have HG : Hid (∀ y ∈ [p, lm, cm], w.heap.size ≤ y) := Lib.hid (fun y hy => by simp at hy; omega)
    clear hb hl hc k2 ho hm kw1 kw2 hp hlm hcm hs hlc
    go_wp2_with fail
    go_ret
    exact ⟨_, p, lm, cm, _, rfl, by rw [eS.out]; exact FIN.out, KF.out, HG.out⟩
end Go.Proofs.Ytcopjjokhjealaa
namespace Go.Proofs.Ytcopjjokhjealaa
open Go.RowKit

theorem run_assert67 (w : World) (v : Value) : (Instr.typeAssert (.iface 67 v) 20 67 false).run Try.prog w = .ok v w := by
  simp [Instr.typeAssert, run_underlying Try.underlying67, go_sem, Result.andThen]
theorem run_clone67 (w : World) {b : Nat} {es : Array MapEntry} {clock : Nat} (hb : w.heap[b]? = some (.map es clock)) :
    (Extern.MapsClone.clone #[.iface 67 (.map (some b))]).run Try.prog w = .ok (.iface 67 (.map (some w.heap.size))) (w.alloc (.map es clock)) := by
  have e : Extern.MapsClone.clone #[.iface 67 (.map (some b))] = (getObj b >>= fun o => match o with
      | .map entries clock => (newObj (.map entries clock) >>= fun n => pure (.iface 67 (.map (some n))))
      | _ => stuck "maps.clone: a map expected") := rfl
  rw [e]
  simp [MapKept.run_getObj_map hb, Result.andThen, go_sem]
set_option maxRecDepth 100000 in
set_option maxHeartbeats 2000000 in
theorem cloneML_any (w : World) (b n : Nat) (f : _ → Option _) (h : GMap kI eL w b n f) :
    Calls Try.prog 32 #[.map (some b)] w fun e w' => e = .returned (.map (some w.heap.size)) ∧ GMap kI eL w' w.heap.size n f ∧ Keeps [] w w' ∧ w'.heap.size = w.heap.size + 1 := by
  obtain ⟨D, ⟨es, clock, hb, F, hs, hD⟩, e⟩ := h
  have hq : ∀ (w : World) (r : Option Nat), (binOp .eql 67 (.map r) (.map none)).run Try.prog w = .ok (.bool r.isNone) w := fun w r => Go.run_eql_map_nil w _ _ _ r Try.underlying67
  have fin : GMap kI eL (w.alloc (.map es clock)) w.heap.size n f := ⟨D, ⟨es, clock, (MapKept.heap_alloc w _).1, F, hs, hD⟩, e⟩
  have kf : Keeps [] w (w.alloc (.map es clock)) := (Keeps.refl _ _).alloc _
  go_enter Try.func32, Try.ntmps32
  go_wp2
  rw [run_callFunc_extern Try.func51 (by kernel_rfl) (by kernel_rfl) (by kernel_rfl) (e := Extern.MapsClone.clone) (by kernel_rfl), run_clone67 w hb]
  simp only [Result.andThen]
  rw [Oper.upon_value]
  go_wp2
  rw [run_assert67]
  simp only [Result.andThen]
  rw [Oper.upon_value]
  go_wp2
  go_ret
  exact ⟨rfl, fin, kf, by simp⟩
theorem run_assert68 (w : World) (v : Value) : (Instr.typeAssert (.iface 68 v) 20 68 false).run Try.prog w = .ok v w := by
  simp [Instr.typeAssert, run_underlying Try.underlying68, go_sem, Result.andThen]
theorem run_clone68 (w : World) {b : Nat} {es : Array MapEntry} {clock : Nat} (hb : w.heap[b]? = some (.map es clock)) :
    (Extern.MapsClone.clone #[.iface 68 (.map (some b))]).run Try.prog w = .ok (.iface 68 (.map (some w.heap.size))) (w.alloc (.map es clock)) := by
  have e : Extern.MapsClone.clone #[.iface 68 (.map (some b))] = (getObj b >>= fun o => match o with
      | .map entries clock => (newObj (.map entries clock) >>= fun n => pure (.iface 68 (.map (some n))))
      | _ => stuck "maps.clone: a map expected") := rfl
  rw [e]
  simp [MapKept.run_getObj_map hb, Result.andThen, go_sem]
set_option maxRecDepth 100000 in
set_option maxHeartbeats 2000000 in
theorem cloneMC_any (w : World) (b n : Nat) (f : _ → Option _) (h : GMap kP eC w b n f) :
    Calls Try.prog 34 #[.map (some b)] w fun e w' => e = .returned (.map (some w.heap.size)) ∧ GMap kP eC w' w.heap.size n f ∧ Keeps [] w w' ∧ w'.heap.size = w.heap.size + 1 := by
  obtain ⟨D, ⟨es, clock, hb, F, hs, hD⟩, e⟩ := h
  have hq : ∀ (w : World) (r : Option Nat), (binOp .eql 68 (.map r) (.map none)).run Try.prog w = .ok (.bool r.isNone) w := fun w r => Go.run_eql_map_nil w _ _ _ r Try.underlying68
  have fin : GMap kP eC (w.alloc (.map es clock)) w.heap.size n f := ⟨D, ⟨es, clock, (MapKept.heap_alloc w _).1, F, hs, hD⟩, e⟩
  have kf : Keeps [] w (w.alloc (.map es clock)) := (Keeps.refl _ _).alloc _
  go_enter Try.func34, Try.ntmps34
  go_wp2
  rw [run_callFunc_extern Try.func51 (by kernel_rfl) (by kernel_rfl) (by kernel_rfl) (e := Extern.MapsClone.clone) (by kernel_rfl), run_clone68 w hb]
  simp only [Result.andThen]
  rw [Oper.upon_value]
  go_wp2
  rw [run_assert68]
  simp only [Result.andThen]
  rw [Oper.upon_value]
  go_wp2
  go_ret
  exact ⟨rfl, fin, kf, by simp⟩
end Go.Proofs.Ytcopjjokhjealaa
namespace Go.Proofs.Ytcopjjokhjealaa
open Go.RowKit

noncomputable def copy1C : Code := ((Try.f9.body.bind (theRegion 1)).getD .skip)
set_option maxRecDepth 1000000 in
set_option maxHeartbeats 1600000 in
set_option linter.unusedSimpArgs false in
theorem copy1_any (w : World) (p lm cm nl nc c : Nat) (A : Option Addr) (s : Pl) (f : Int → Option LnV) (K : Exit → Act → World → Prop)
    (hS : ∀ W, Keeps [] w W → W.cell? ⟨p, 0, none⟩ = some (.map (some lm)) ∧ W.cell? ⟨p, 1, none⟩ = some (.slice A s.li.length c) ∧ W.cell? ⟨p, 2, none⟩ = some (.map (some cm))) (hl : s.li.length ≤ 1000)
    (hL : ∀ W, Keeps [] w W → GMap kI eL W lm nl f) (hC : ∀ W, Keeps [] w W → GMap kP eC W cm nc s.ct) (hO : ∀ W, Keeps [] w W → W.ownsRow 0 49 4 (.slice A s.li.length c) s.li.length (rw rcs s.li))
    (u1 u2 u3 u4 u5 u6 u7 u8 u9 u10 u11 u12 u13 u14 u15 u16 u17 u18 u19 : Value)
    (hK : ∀ (v3 v4 v5 v6 v7 v8 v9 v10 v11 v12 v13 v14 v15 v16 v17 v18 v19 : Value) (p2 lm2 cm2 : Nat) (A2 : Option Addr) (c2 : Nat) (W : World), Blk W p2 70 #[.map (some lm2), .slice A2 s.li.length c2, .map (some cm2)] → GMap kI eL W lm2 nl f → GMap kP eC W cm2 nc s.ct → lm2 ≠ cm2 →
      W.ownsRow 0 49 4 (.slice A2 s.li.length c2) s.li.length (rw rcs s.li) → Keeps [] w W → (∀ g ∈ p2 :: lm2 :: cm2 :: fp (.slice A2 s.li.length c2), w.heap.size ≤ g) → K .normal ⟨#[.pointer (some ⟨p, 0, none⟩), u1, .pointer (some ⟨p2, 0, none⟩), v3, v4, v5, v6, v7, v8, v9, v10, v11, v12, v13, v14, v15, v16, v17, v18, v19], []⟩ W) :
    Code.wp Try.prog copy1C K ⟨#[.pointer (some ⟨p, 0, none⟩), u1, u2, u3, u4, u5, u6, u7, u8, u9, u10, u11, u12, u13, u14, u15, u16, u17, u18, u19], []⟩ w := by
  have HS := Lib.hid hS
  have HL := Lib.hid hL
  have HC := Lib.hid hC
  have HO := Lib.hid hO
  clear hS hL hC hO
  conv => arg 2; whnf
  try dsimp only at hK ⊢
  refine wp_region_noPanic ?_
  refine wp_region_held_drew (S := fun W => W.cell? ⟨p, 0, none⟩ = some (.map (some lm)) ∧ W.cell? ⟨p, 1, none⟩ = some (.slice A s.li.length c) ∧ W.cell? ⟨p, 2, none⟩ = some (.map (some cm))) (by kernel_rfl) (HS.out _ ((Keeps.refl [] w).drew)) (fun hHeld => ?_)
  obtain ⟨w0, hw0⟩ : ∃ w0, w.drew = w0 := ⟨_, rfl⟩
  try rw [hw0] at hHeld
  rw [hw0]
  have K0 : Keeps [] w w0 := by rw [← hw0]; exact (Keeps.refl [] w).drew
  clear hw0
  refine wpAnyH_take (i := 0) (oi := ⟨some 3, Op.move (Operand.tmp 0), 26, _, _, none⟩) (v := ?vq1) rfl (by kernel_rfl) (by kernel_rfl) (by kernel_rfl) (fun _ _ _ h => h) (Or.inl ⟨by rfl, fun W hW => ?_⟩) (by assumption) ?_
  rotate_left
  · go_simp
    with_reducible rfl
  try simp only [Act.put, List.setIfInBounds_toArray, List.set_cons_zero, List.set_cons_succ]
  refine wpAnyH_take (i := 1) (oi := ⟨some 4, Op.nilCheck (Operand.tmp 3), 0, _, _, none⟩) (v := ?vq2) rfl (by kernel_rfl) (by kernel_rfl) (by kernel_rfl) (fun _ _ _ h => h) (Or.inl ⟨by rfl, fun W hW => ?_⟩) (by assumption) ?_
  rotate_left
  · go_simp
    with_reducible rfl
  try simp only [Act.put, List.setIfInBounds_toArray, List.set_cons_zero, List.set_cons_succ]
  refine wpAnyH_take (i := 2) (oi := ⟨some 5, Op.fieldAddr 70 (Operand.tmp 4) 0, 0, _, _, none⟩) (v := ?vq3) rfl (by kernel_rfl) (by kernel_rfl) (by kernel_rfl) (fun _ _ _ h => h) (Or.inl ⟨by rfl, fun W hW => ?_⟩) (by assumption) ?_
  rotate_left
  · go_simp
    with_reducible rfl
  try simp only [Act.put, List.setIfInBounds_toArray, List.set_cons_zero, List.set_cons_succ]
  refine wpAnyH_take (i := 3) (oi := ⟨some 6, Op.load 67 (Operand.tmp 5), 67, _, _, none⟩) (v := .map (some lm)) rfl (by kernel_rfl) (by kernel_rfl) (by kernel_rfl) (fun _ _ _ h => h) (Or.inl ⟨by rfl, fun W hW => ?_⟩) (by assumption) ?_
  · (have a0 := hW.1; clear hW; go_simp)
  try simp only [Act.put, List.setIfInBounds_toArray, List.set_cons_zero, List.set_cons_succ]
  refine wpAnyH_take (i := 5) (oi := ⟨some 8, Op.move (Operand.tmp 0), 26, _, _, none⟩) (v := ?vq4) rfl (by kernel_rfl) (by kernel_rfl) (by kernel_rfl) (fun _ _ _ h => h) (Or.inl ⟨by rfl, fun W hW => ?_⟩) (by assumption) ?_
  rotate_left
  · go_simp
    with_reducible rfl
  try simp only [Act.put, List.setIfInBounds_toArray, List.set_cons_zero, List.set_cons_succ]
  refine wpAnyH_take (i := 6) (oi := ⟨some 9, Op.nilCheck (Operand.tmp 8), 0, _, _, none⟩) (v := ?vq5) rfl (by kernel_rfl) (by kernel_rfl) (by kernel_rfl) (fun _ _ _ h => h) (Or.inl ⟨by rfl, fun W hW => ?_⟩) (by assumption) ?_
  rotate_left
  · go_simp
    with_reducible rfl
  try simp only [Act.put, List.setIfInBounds_toArray, List.set_cons_zero, List.set_cons_succ]
  refine wpAnyH_take (i := 7) (oi := ⟨some 10, Op.fieldAddr 70 (Operand.tmp 9) 1, 0, _, _, none⟩) (v := ?vq6) rfl (by kernel_rfl) (by kernel_rfl) (by kernel_rfl) (fun _ _ _ h => h) (Or.inl ⟨by rfl, fun W hW => ?_⟩) (by assumption) ?_
  rotate_left
  · go_simp
    with_reducible rfl
  try simp only [Act.put, List.setIfInBounds_toArray, List.set_cons_zero, List.set_cons_succ]
  refine wpAnyH_take (i := 8) (oi := ⟨some 11, Op.load 41 (Operand.tmp 10), 41, _, _, none⟩) (v := .slice A s.li.length c) rfl (by kernel_rfl) (by kernel_rfl) (by kernel_rfl) (fun _ _ _ h => h) (Or.inl ⟨by rfl, fun W hW => ?_⟩) (by assumption) ?_
  · (have a0 := hW.2.1; clear hW; go_simp)
  try simp only [Act.put, List.setIfInBounds_toArray, List.set_cons_zero, List.set_cons_succ]
  refine wpAnyH_take (i := 10) (oi := ⟨some 13, Op.move (Operand.tmp 0), 26, _, _, none⟩) (v := ?vq7) rfl (by kernel_rfl) (by kernel_rfl) (by kernel_rfl) (fun _ _ _ h => h) (Or.inl ⟨by rfl, fun W hW => ?_⟩) (by assumption) ?_
  rotate_left
  · go_simp
    with_reducible rfl
  try simp only [Act.put, List.setIfInBounds_toArray, List.set_cons_zero, List.set_cons_succ]
  refine wpAnyH_take (i := 11) (oi := ⟨some 14, Op.nilCheck (Operand.tmp 13), 0, _, _, none⟩) (v := ?vq8) rfl (by kernel_rfl) (by kernel_rfl) (by kernel_rfl) (fun _ _ _ h => h) (Or.inl ⟨by rfl, fun W hW => ?_⟩) (by assumption) ?_
  rotate_left
  · go_simp
    with_reducible rfl
  try simp only [Act.put, List.setIfInBounds_toArray, List.set_cons_zero, List.set_cons_succ]
  refine wpAnyH_take (i := 12) (oi := ⟨some 15, Op.fieldAddr 70 (Operand.tmp 14) 2, 0, _, _, none⟩) (v := ?vq9) rfl (by kernel_rfl) (by kernel_rfl) (by kernel_rfl) (fun _ _ _ h => h) (Or.inl ⟨by rfl, fun W hW => ?_⟩) (by assumption) ?_
  rotate_left
  · go_simp
    with_reducible rfl
  try simp only [Act.put, List.setIfInBounds_toArray, List.set_cons_zero, List.set_cons_succ]
  refine wpAnyH_take (i := 13) (oi := ⟨some 16, Op.load 68 (Operand.tmp 15), 68, _, _, none⟩) (v := .map (some cm)) rfl (by kernel_rfl) (by kernel_rfl) (by kernel_rfl) (fun _ _ _ h => h) (Or.inl ⟨by rfl, fun W hW => ?_⟩) (by assumption) ?_
  · (have a0 := hW.2.2; clear hW; go_simp)
  try simp only [Act.put, List.setIfInBounds_toArray, List.set_cons_zero, List.set_cons_succ]
  refine wpAnyH_ready (rs := [4]) (by kernel_rfl) (by simp) ?_
  refine AllReadyH.cons (o := ⟨some 7, Op.call { callee := Callee.value (Operand.func 32), args := #[Operand.tmp 6], argTypes := #[67] }, 67, _, _, none⟩) rfl (fun KK hKK => ?_) AllReadyH.nil
  have hc13 := cloneML_any w0 lm nl f (HL.out _ K0)
  obtain ⟨b11, e12⟩ : ∃ b, w0.heap.size = b := ⟨_, rfl⟩
  rw [e12] at hc13
  have ge18 : w.heap.size ≤ b11 := by have := K0.size; omega
  refine step_callW (by rfl) 32 _ _ rfl #[.map (some lm)] (by first | (simp [Act.eval]; done) | (simp [Act.eval, Act.put]; done)) (enters_of Try.func32 (by kernel_rfl) rfl) hc13 ?_
  rintro e W10 ⟨rfl, fa14, k15, -⟩
  refine ⟨_, rfl, ?_⟩
  have K16 : Keeps [] w W10 := K0.trans k15 (by simp)
  refine hKK.out _ _ (HS.out _ K16) (fun hHeld => ?_)
  clear hKK KK e12 hc13
  try simp only [Act.put, List.setIfInBounds_toArray, List.set_cons_zero, List.set_cons_succ]
  refine wpAnyH_ready (rs := [9]) (by kernel_rfl) (by simp) ?_
  refine AllReadyH.cons (o := ⟨some 12, Op.call { callee := Callee.value (Operand.func 33), args := #[Operand.tmp 11], argTypes := #[41] }, 41, _, _, none⟩) rfl (fun KK hKK => ?_) AllReadyH.nil
  refine step_callW (by rfl) 33 _ _ rfl #[.slice A s.li.length c] (by first | (simp [Act.eval]; done) | (simp [Act.eval, Act.put]; done)) (enters_of Try.func33 (by kernel_rfl) rfl) (cloneR_any _ A s.li.length c _ (HO.out _ K16) (rw_one rcs_one _) (by omega)) ?_
  rintro e W19 ⟨v20, rfl, fa21, k22, f23⟩
  refine ⟨_, rfl, ?_⟩
  have K24 : Keeps [] w W19 := K16.trans k22 (by simp)
  have ge27 : ∀ g ∈ fp v20, w.heap.size ≤ g := fun g hg => Nat.le_trans K16.size (f23 g hg)
  obtain ⟨A25, c26, rfl, -, -, -⟩ := own_shape fa21
  have fa28 := fa14.keep k22 (by simp)
  refine hKK.out _ _ (HS.out _ K24) (fun hHeld => ?_)
  clear hKK KK
  try simp only [Act.put, List.setIfInBounds_toArray, List.set_cons_zero, List.set_cons_succ]
  refine wpAnyH_ready (rs := [14]) (by kernel_rfl) (by simp) ?_
  refine AllReadyH.cons (o := ⟨some 17, Op.call { callee := Callee.value (Operand.func 34), args := #[Operand.tmp 16], argTypes := #[68] }, 68, _, _, none⟩) rfl (fun KK hKK => ?_) AllReadyH.nil
  have hc32 := cloneMC_any W19 cm nc s.ct (HC.out _ K24)
  obtain ⟨b30, e31⟩ : ∃ b, W19.heap.size = b := ⟨_, rfl⟩
  rw [e31] at hc32
  have ge37 : w.heap.size ≤ b30 := by have := K24.size; omega
  have ne38 : b11 ≠ b30 := by have := fa28.lt; omega
  refine step_callW (by rfl) 34 _ _ rfl #[.map (some cm)] (by first | (simp [Act.eval]; done) | (simp [Act.eval, Act.put]; done)) (enters_of Try.func34 (by kernel_rfl) rfl) hc32 ?_
  rintro e W29 ⟨rfl, fa33, k34, -⟩
  refine ⟨_, rfl, ?_⟩
  have K35 : Keeps [] w W29 := K24.trans k34 (by simp)
  have fa39 := fa28.keep k34 (by simp)
  have fa40 := own_keep fa21 k34 (by simp)
  refine hKK.out _ _ (HS.out _ K35) (fun hHeld => ?_)
  clear hKK KK e31 hc32
  try simp only [Act.put, List.setIfInBounds_toArray, List.set_cons_zero, List.set_cons_succ]
  refine wpAnyH_take (i := 15) (oi := ⟨some 18, Op.build 70 #[(0, Operand.tmp 7), (1, Operand.tmp 12), (2, Operand.tmp 17)], 70, _, _, none⟩) (v := .agg #[.map (some b11), .slice A25 s.li.length c26, .map (some b30)]) rfl (by kernel_rfl) (by kernel_rfl) (by kernel_rfl) (fun _ _ _ h => h) (Or.inl ⟨by rfl, fun W hW => ?_⟩) (by assumption) ?_
  · go_simp
  try simp only [Act.put, List.setIfInBounds_toArray, List.set_cons_zero, List.set_cons_succ]
  refine wpAnyH_ready (rs := [16]) (by kernel_rfl) (by simp) ?_
  refine AllReadyH.cons (o := ⟨some 19, Op.box 70 (Operand.tmp 18), 26, _, _, none⟩) rfl (fun KK hKK => ?_) AllReadyH.nil
  go_simp
  obtain ⟨b42, f45⟩ : ∃ b, W29.heap.size = b := ⟨_, rfl⟩
  rw [f45]
  obtain ⟨W41, e44⟩ : ∃ W, World.alloc W29 (.cells #[.map (some b11), .slice A25 s.li.length c26, .map (some b30)] 70) = W := ⟨_, rfl⟩
  rw [e44]
  have kk46 : Keeps [] W29 W41 := by rw [← e44]; exact (Keeps.refl [] _).alloc _
  have K43 : Keeps [] w W41 := K35.trans kk46 (by simp)
  have bb47 : Blk W41 b42 70 #[.map (some b11), .slice A25 s.li.length c26, .map (some b30)] := by rw [← e44, ← f45]; exact Blk.new _ _ _
  have ge48 : w.heap.size ≤ b42 := by have := K35.size; omega
  have fa49 := fa39.keep kk46 (by simp)
  have fa50 := own_keep fa40 kk46 (by simp)
  have fa51 := fa33.keep kk46 (by simp)
  refine hKK.out _ _ (HS.out _ K43) (fun hHeld => ?_)
  clear hKK KK e44 f45
  try simp only [Act.put, List.setIfInBounds_toArray, List.set_cons_zero, List.set_cons_succ]
  refine wpAnyH_take (i := 17) (oi := ⟨some 2, Op.assign (Operand.tmp 19), 26, _, _, none⟩) (v := ?vq52) rfl (by kernel_rfl) (by kernel_rfl) (by kernel_rfl) (fun _ _ _ h => h) (Or.inl ⟨by rfl, fun W hW => ?_⟩) (by assumption) ?_
  rotate_left
  · go_simp
    with_reducible rfl
  try simp only [Act.put, List.setIfInBounds_toArray, List.set_cons_zero, List.set_cons_succ]
  refine wpAnyH_done (by kernel_rfl) ?_ _
  refine NoPanic.normal ?_
  exact hK _ _ _ _ _ _ _ _ _ _ _ _ _ _ _ _ _ b42 b11 b30 A25 c26 _ bb47 fa49 fa51 ne38 fa50 K43 (fun g hg => by
    rcases List.mem_cons.1 hg with rfl | hg
    · assumption
    rcases List.mem_cons.1 hg with rfl | hg
    · assumption
    rcases List.mem_cons.1 hg with rfl | hg
    · assumption
    exact ge27 g hg)
end Go.Proofs.Ytcopjjokhjealaa
namespace Go.Proofs.Ytcopjjokhjealaa
open Go.RowKit

/-- The planner at p, its size in hand. -/
def PR (w : World) (F : List Nat) (p : Nat) (s : Pl) (Φ : Nat) : Prop :=
  ∃ lm cm nl nc A c f, PlAt w F p s lm cm nl nc A c f ∧ nl ≤ Φ ∧ nc + s.li.length ≤ Φ
theorem PR.keep {w w' : World} {F G : List Nat} {p : Nat} {s : Pl} {Φ : Nat} (h : PR w F p s Φ) (hk : Keeps G w w') (hd : ∀ g ∈ F, g ∉ G) (hG : ∀ g ∈ G, ¬ IntRow w g) : PR w' F p s Φ := by
  obtain ⟨lm, cm, nl, nc, A, c, f, h, h1, h2⟩ := h
  exact ⟨lm, cm, nl, nc, A, c, f, h.keep hk hd hG, h1, h2⟩
theorem PR.keep0 {w w' : World} {F : List Nat} {p : Nat} {s : Pl} {Φ : Nat} (h : PR w F p s Φ) (hk : Keeps [] w w') : PR w' F p s Φ :=
  h.keep hk (fun _ _ => by simp) (fun _ hg => by cases hg)
theorem PR.lt {w : World} {F : List Nat} {p : Nat} {s : Pl} {Φ : Nat} (h : PR w F p s Φ) : ∀ g ∈ F, g < w.heap.size := by
  obtain ⟨lm, cm, nl, nc, A, c, f, h, -⟩ := h
  exact h.lt
theorem PR.noInt {w : World} {F : List Nat} {p : Nat} {s : Pl} {Φ : Nat} (h : PR w F p s Φ) : ∀ g ∈ F, ¬ IntRow w g := by
  obtain ⟨lm, cm, nl, nc, A, c, f, h, -⟩ := h
  exact h.noInt
theorem PR.mono {w : World} {F : List Nat} {p : Nat} {s : Pl} {Φ Ψ : Nat} (h : PR w F p s Φ) (hΦ : Φ ≤ Ψ) : PR w F p s Ψ := by
  obtain ⟨lm, cm, nl, nc, A, c, f, h, h1, h2⟩ := h
  exact ⟨lm, cm, nl, nc, A, c, f, h, by omega, by omega⟩
set_option maxRecDepth 100000 in
set_option maxHeartbeats 3200000 in
theorem copy_any (w : World) (F : List Nat) (p : Nat) (s : Pl) (Φ : Nat) (h : PR w F p s Φ) (hl : s.li.length ≤ 1000) :
    Calls Try.prog 9 #[.pointer (some ⟨p, 0, none⟩)] w fun e w' => ∃ F' p', e = .returned (.pointer (some ⟨p', 0, none⟩)) ∧ PR w' F' p' s Φ ∧ Keeps [] w w' ∧ ∀ g ∈ F', w.heap.size ≤ g := by
  obtain ⟨lm, cm, nl, nc, A, c, f, h, h1, h2⟩ := h
  have HH := Lib.hid h
  have HN := Lib.hid (And.intro h1 h2)
  clear h h1 h2
  go_enter Try.func9, Try.ntmps9
  go_upto_region 1 with fail
  refine copy1_any w p lm cm nl nc c A s f _ (fun W k => ?_) hl (fun W k => (HH.out.keep0 k).ml) (fun W k => (HH.out.keep0 k).mc) (fun W k => (HH.out.keep0 k).o) _ _ _ _ _ _ _ _ _ _ _ _ _ _ _ _ _ _ _ ?_
  · have b := (HH.out.keep0 k).b
    exact ⟨b.cell 0, b.cell 1, b.cell 2⟩
  intro v3 v4 v5 v6 v7 v8 v9 v10 v11 v12 v13 v14 v15 v16 v17 v18 v19 p2 lm2 cm2 A2 c2 W hb hml hmc hne ho hk hf
  have fin : PlAt W (p2 :: lm2 :: cm2 :: fp (.slice A2 s.li.length c2)) p2 s lm2 cm2 nl nc A2 c2 f := ⟨rfl, hb, hml, hmc, hne, ho, HH.out.ls.keep hk (fun _ hg => by cases hg)⟩
  have FIN := Lib.hid fin
  have HK := Lib.hid hk
  have HF := Lib.hid hf
  clear fin hk hf hb hml hmc hne ho
  go_wp2_with fail
  go_ret
  exact ⟨_, p2, rfl, ⟨lm2, cm2, nl, nc, A2, c2, f, FIN.out, HN.out.1, HN.out.2⟩, HK.out, HF.out⟩
end Go.Proofs.Ytcopjjokhjealaa
