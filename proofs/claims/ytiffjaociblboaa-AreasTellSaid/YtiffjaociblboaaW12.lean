/- slices.Clone and slices.Insert over areas. -/
import Derived.Test.YtiffjaociblboaaW11
import Derived.Lib.Overlaps
import Derived.Lib.AppendZerosOnto
import Derived.Lib.JoinLaws
import Derived.Lib.SliceRun
import Derived.Lib.Walk
import Derived.Laws.NewBlocks
import Derived.Shelf.RegionOpenPlain
import Derived.WalkSpells
import Derived.Deep.RegionLaw
namespace Go.Proofs.Ytiffjaociblboaa
open Go.RowKit

theorem AtL.reads {w : World} {A : Option Addr} {L : List Ar} (h : AtL w A L) : Reads w w.heap.size 6 A L.length (rw acs L) := by
  refine ⟨rw_len acs_len L, fun h0 => ?_⟩
  obtain ⟨b, off, rfl, hb, hc⟩ := h.at_ h0
  refine ⟨_, rfl, hb, fun j u hu => ?_⟩
  have hj : j < L.length * 6 := by
    have := (List.getElem?_eq_some_iff.1 hu).1
    rwa [rw_len acs_len L] at this
  have hk : j / 6 < L.length := by omega
  have hr : j % 6 < 6 := Nat.mod_lt _ (by omega)
  have hu' := hu
  rw [show j = j / 6 * 6 + j % 6 by omega, rw_at acs_len hk hr] at hu'
  obtain ⟨c0, c1, c2, c3, c4, c5⟩ := hc (j / 6) hk
  rw [add_of_plain, show off + j = off + j / 6 * 6 + j % 6 by omega]
  have h6 : j % 6 = 0 ∨ j % 6 = 1 ∨ j % 6 = 2 ∨ j % 6 = 3 ∨ j % 6 = 4 ∨ j % 6 = 5 := by omega
  rcases h6 with e | e | e | e | e | e <;> rw [e] at hu' ⊢ <;> injection hu' with hu' <;> subst hu'
  · exact c0
  · exact c1
  · exact c2
  · exact c3
  · exact c4
  · exact c5
theorem clone_any (w : World) (A : Option Addr) (L : List Ar) (c : Nat) (h : AtL w A L) :
    Calls Try.prog 29 #[.slice A L.length c] w fun e w' => ∃ v, e = .returned v ∧ OwnL w w' v L := by
  have hm := h.mx
  rcases A with _ | a
  · have hL : L = [] := by
      cases L with
      | nil => rfl
      | cons x r => obtain ⟨b, off, e, _⟩ := h.at_ (by simp); cases e
    subst hL
    have he := fun W => Lib.run_eql_slice_nil (P := Try.prog) W 22 24 none 0 c 0 0 Try.underlying22
    go_enter Try.func29, Try.ntmps29
    go_wp2
    go_ret
    exact ⟨_, rfl, OwnL.nil (Keeps.refl _ _)⟩
  · have he := fun W => Lib.run_eql_slice_nil (P := Try.prog) W 22 24 (some a) L.length c 0 0 Try.underlying22
    have HI := Lib.hid info24
    have HR := Lib.hid (h.keep ((Keeps.refl [] w).alloc (.cells #[] 24))).reads
    clear h
    go_enter Try.func29, Try.ntmps29
    go_wp2_with (at_builtin; refine wpList_app _ rfl (.tmp 5) (.tmp 6) _ rfl 24 (.agg #[.int .i64 0, .int .i64 0, .string ⟨#[]⟩, .int .i64 0, .bool false, .bool false]) 6 48 Try.underlying22 HI.out rfl (by omega) (.slice (some ⟨w.heap.size, 0, none⟩) 0 0) 0 [] rfl (own_of_blk (Blk.new w 24 #[]) (by omega) (by omega) rfl rfl) _ _ _ _ (rw acs L) rfl HR.out (rw_one acs_one L) (by unfold maxLen; omega) (by omega) ?_)
    intro v' w' ho' hk' hf'
    go_wp2
    go_ret
    have hk1 : Keeps [] w (w.alloc (.cells #[] 24)) := (Keeps.refl _ _).alloc _
    refine ⟨v', rfl, by simpa using ho', hk1.trans hk' (by simp), fun g hg => ?_⟩
    rcases hf' g hg with h2 | h2
    · have : g = w.heap.size := by simpa using h2
      omega
    · omega
/-- 'copy' of areas: all is read before anything is written. -/
theorem run_copy_ar (w : World) (ty : TypeId) (b o dLen dCap : Nat) (a : Addr) (sLen sCap : Nat) (cs : List Value) (m : Nat) (hm : min sLen dLen = m) (hn : cs.length = m * 6)
    (hsrc : ∀ j v, cs[j]? = some v → w.cell? (a.add j) = some v) (hc : ∀ j, j < cs.length → (w.cell? ⟨b, o + j, none⟩).isSome = true) (hf : ∀ j, j < cs.length → w.frozen? ⟨b, o + j, none⟩ = false) (h1 : ∀ v ∈ cs, v.oneCell' = true) :
    (Builtin.copy_ #[22, 22] ty #[.slice (some ⟨b, o, none⟩) dLen dCap, .slice (some a) sLen sCap]).run Try.prog w = .ok (goInt m) (w.setCells b o cs) := by
  have hl := run_loadCells_list (P := Try.prog) w a cs hsrc
  have hst := run_storeCells_cells (P := Try.prog) b o cs 0 w (by simpa using hc) (by simpa using hf) h1
  obtain ⟨i, hi, hz, hs, hb⟩ := info_parts info24
  simp [Builtin.copy_, run_underlying Try.underlying22, Builtin.lenOf, Builtin.firstCells, sizeOf, typeInfo, hi, hs, hm, ← hn, hl, hst]
section
variable {P : Program}
theorem wpList_copy_run (w : World) {ops : Array Oper} {rest : List Oper} {o : Oper} {a : Act} {Q : Exit → Act → World → Prop} (hgd : o.guard = none) (d s : Operand) (t t' : TypeId)
    (ho : o.op = .call { callee := .builtin .copy, args := #[d, s], argTypes := #[t, t'] }) (v u : Value) (hd : a.eval d = v) (hs : a.eval s = u) {v' : Value} {w' : World}
    (hr : (Builtin.copy_ #[t, t'] o.type #[v, u]).run P w = .ok v' w') (h : wpList P ops Q rest (a.put o.dst v') w') : wpList P ops Q (o :: rest) a w := by
  refine wpList_plain hgd fun _ hK => ?_
  unfold Oper.wp execOp
  simp only [ho, resolve, invoke, builtin, Sem.run_bind, Sem.run_pure, Result.andThen_ok, List.map_toArray, List.map_cons, List.map_nil, hd, hs, hr]
  exact hK _ _ h
theorem step_copy_run {ops : Array Oper} {o : Oper} {a : Act} {w : World} {K : Act → World → Prop} {Q : Exit → Act → World → Prop} {E : Prop}
    (hg : o.guard = none) (d x : Operand) (dT sT : TypeId) (hop : o.op = Op.call { callee := Callee.builtin Builtin.copy, args := #[d, x], argTypes := #[dT, sT] })
    (v u : Value) (hd : a.eval d = v) (hx : a.eval x = u) {v' : Value} {w' : World} (hr : (Builtin.copy_ #[dT, sT] o.type #[v, u]).run P w = .ok v' w') (hK : K (a.put o.dst v') w') :
    if Region.wanted o (yielded ops a.tmps) = true then Oper.wp P o a w K Q else E := by
  have hw : Region.wanted o (yielded ops a.tmps) = true := by simp [Region.wanted, hg]
  rw [if_pos hw]
  unfold Oper.wp
  simp [execOp, hop, resolve, invoke, builtin, hd, hx, hr, Result.andThen]
  exact hK
end
theorem blk_shape {w : World} {b : Nat} {cs : Array Value} (h : Blk w b 24 cs) : w.shape? b = some (24, cs.size) := by
  unfold Blk at h
  simp [World.shape?, h]
theorem spliceA (C R Y : List Value) (a k : Nat) (hC : a + 6 + R.length ≤ C.length) (hY : Y.length = 6) (hk : k = a + 6 + R.length) : (splice (splice C (a + 6) R) a Y).take k = C.take a ++ Y ++ R := by
  have e1 : (splice C (a + 6) R).take a = C.take a := by
    unfold splice
    rw [List.append_assoc, List.take_append_of_le_length (by rw [List.length_take]; omega), List.take_take, Nat.min_eq_left (by omega)]
  have e2 : (splice C (a + 6) R).drop (a + 6) = R ++ C.drop (a + 6 + R.length) := by
    unfold splice
    rw [List.append_assoc]
    exact List.drop_left' (by rw [List.length_take]; omega)
  have e : splice (splice C (a + 6) R) a Y = (C.take a ++ Y ++ R) ++ C.drop (a + 6 + R.length) := by
    show (splice C (a + 6) R).take a ++ Y ++ (splice C (a + 6) R).drop (a + Y.length) = _
    rw [hY, e1, e2, List.append_assoc (C.take a ++ Y)]
  rw [e]
  exact List.take_left' (by rw [List.length_append, List.length_append, List.length_take, hY, hk]; omega)
theorem spliceB (C R Y : List Value) (a k : Nat) (hC : a + 6 + R.length ≤ C.length) (hY : Y.length = 6) (hk : k = a + 6 + R.length) : (splice (splice C a Y) (a + 6) R).take k = C.take a ++ Y ++ R := by
  have e1 : (splice C a Y).take (a + 6) = C.take a ++ Y := by
    unfold splice
    exact List.take_left' (by rw [List.length_append, List.length_take, hY]; omega)
  have e : splice (splice C a Y) (a + 6) R = (C.take a ++ Y ++ R) ++ (splice C a Y).drop (a + 6 + R.length) := by
    show (splice C a Y).take (a + 6) ++ R ++ _ = _
    rw [e1]
  rw [e]
  exact List.take_left' (by rw [List.length_append, List.length_append, List.length_take, hY, hk]; omega)
/-- What Insert leaves. -/
def Ins (w : World) (A : Option Addr) (cap : Nat) (L : List Ar) (i : Nat) (x : Ar) (e : Ending) (w' : World) : Prop :=
  ∃ v, e = .returned v ∧ w'.ownsRow 0 24 6 v (L.length + 1) (rw acs (L.take i ++ x :: L.drop i)) ∧ Keeps (fp (.slice A L.length cap)) w w' ∧ ∀ g ∈ fp v, g ∈ fp (.slice A L.length cap) ∨ w.heap.size ≤ g
theorem reads_ar {w : World} {vb : Nat} {x : Ar} (h : Blk w vb 24 (acs x).toArray) : Reads w w.heap.size 6 (some ⟨vb, 0, none⟩) 1 (acs x) :=
  ⟨rfl, fun _ => ⟨_, rfl, h.lt, fun j u hu => by rw [add_of_plain, Nat.zero_add, h.cell]; simpa using hu⟩⟩
set_option maxRecDepth 100000 in
set_option maxHeartbeats 1600000 in
theorem insert_end (w : World) (A : Option Addr) (cap vb : Nat) (L : List Ar) (x : Ar) (hn2 : L.length ≤ 1000000) (ho : w.ownsRow 0 24 6 (.slice A L.length cap) L.length (rw acs L)) (hv : Blk w vb 24 (acs x).toArray) :
    Calls Try.prog 28 #[.slice A L.length cap, .int .i64 (L.length : Nat), .slice (some ⟨vb, 0, none⟩) 1 1] w fun e w' => Ins w A cap L L.length x e w' := by
  obtain ⟨_, _, hvv, hcap, hmax, hA⟩ := own_shape ho
  obtain ⟨rfl, -, rfl⟩ : A = _ ∧ L.length = _ ∧ cap = _ := by injection hvv with h1 h2 h3; exact ⟨h1, rfl, h3⟩
  unfold maxLen at hmax
  have fin : ∀ (v' : Value) (w' : World), w'.ownsRow 0 24 6 v' (L.length + 1) (rw acs L ++ acs x) → Keeps (fp (.slice A L.length cap)) w w' → (∀ g ∈ fp v', g ∈ fp (.slice A L.length cap) ∨ w.heap.size ≤ g) → Ins w A cap L L.length x (.returned v') w' :=
    fun v' w' o k f => ⟨v', rfl, by rw [List.take_length, List.drop_length, rw_append, rw_cons, rw_nil, List.append_nil]; exact o, k, f⟩
  have HF := Lib.hid fin
  have HO := Lib.hid ho
  have HI := Lib.hid info24
  obtain ⟨n, hnl⟩ : ∃ n, n = L.length := ⟨_, rfl⟩
  rw [← hnl] at HF HO hn2 hcap
  rw [← hnl]
  have HNL := Lib.hid hnl
  have HRR := Lib.hid (reads_ar hv)
  clear fin hvv hA ho hv hnl
  have q1 : (0 : Int) ≤ (n : Int) := by omega
  have q2 : (n : Int) ≤ (cap : Int) := by omega
  go_enter Try.func28, Try.ntmps28
  go_wp2_with (at_builtin; refine wpList_app _ rfl (.tmp 23) (.tmp 24) _ rfl 24 (.agg #[.int .i64 0, .int .i64 0, .string ⟨#[]⟩, .int .i64 0, .bool false, .bool false]) 6 48 Try.underlying22 HI.out rfl (by omega) (.slice A n cap) n _ rfl HO.out _ _ _ _ _ rfl HRR.out (acs_one x) (by unfold maxLen; omega) (by omega) ?_)
  all_goals
    intro v' w' ho' hk' hf'
    go_wp2
    go_ret
    first
      | exact HF.out _ _ ho' hk' hf'
      | (have e : cap = n := by assumption
         rw [e] at HF ⊢
         exact HF.out _ _ ho' hk' hf')
set_option maxRecDepth 100000 in
set_option maxHeartbeats 3200000 in
theorem insert_shift (w : World) (g cap vb i : Nat) (L : List Ar) (x : Ar) (hi : i < L.length) (hn2 : L.length ≤ 1000000) (hroom : L.length + 1 ≤ cap) (hne : vb ≠ g)
    (ho : w.ownsRow 0 24 6 (.slice (some ⟨g, 0, none⟩) L.length cap) L.length (rw acs L)) (hv : Blk w vb 24 (acs x).toArray) :
    Calls Try.prog 28 #[.slice (some ⟨g, 0, none⟩) L.length cap, .int .i64 i, .slice (some ⟨vb, 0, none⟩) 1 1] w fun e w' => Ins w (some ⟨g, 0, none⟩) cap L i x e w' := by
  obtain ⟨cur, hb, hnc, hcm, hcs, hx⟩ := own_blk ho
  unfold maxLen at hcm
  have hle := rw_len acs_len (L.drop i)
  rw [List.length_drop] at hle
  have hov : ∀ lb cb, (callFunc 35 #[.slice (some ⟨vb, 0, none⟩) 1 1, .slice (some ⟨g, (i + 1) * 6, none⟩) lb cb]).run Try.prog w = .ok (.value (.bool false)) w := fun lb cb => by
    rw [run_callFunc_extern Try.func35 (by kernel_rfl) (by kernel_rfl) (by kernel_rfl) (e := Extern.SlicesOverlaps.overlaps #[22, 22] #[4]) (by kernel_rfl),
      Lib.run_overlaps_apart w 22 4 24 Try.underlying22 6 (fun w => by kernel_rfl) ⟨vb, 0, none⟩ ⟨g, (i + 1) * 6, none⟩ 1 1 lb cb hne 24 24 6 cur.size (blk_shape hv) (blk_shape hb) (by omega) (hv.frozen 0) (hv.frozen 6)]
    rfl
  have hor := ho
  obtain ⟨n, hnl⟩ : ∃ n, n = L.length := ⟨_, rfl⟩
  rw [← hnl] at hi hn2 hroom ho hnc hx hle ⊢
  have hdrop : ∀ j v, (rw acs (L.drop i))[j]? = some v → (rw acs L)[i * 6 + j]? = some v := fun j v hj => by
    rw [← rw_drop acs_len, List.getElem?_drop] at hj; exact hj
  have hcp1 : ∀ ty dc sc, (Builtin.copy_ #[22, 22] ty #[.slice (some ⟨g, (i + 1) * 6, none⟩) (n - i) dc, .slice (some ⟨g, i * 6, none⟩) (n + 1 - i) sc]).run Try.prog w.drew = .ok (goInt (n - i : Nat)) (w.drew.setCells g ((i + 1) * 6) (rw acs (L.drop i))) := fun ty dc sc =>
    run_copy_ar w.drew ty g ((i + 1) * 6) (n - i) dc ⟨g, i * 6, none⟩ (n + 1 - i) sc (rw acs (L.drop i)) (n - i) (by omega) hle
      (fun j v hj => by rw [add_of_plain]; exact own_cell (own_drew ho) (hdrop j v hj))
      (fun j hj => by rw [hb.drew.cell, Array.getElem?_eq_getElem (by rw [hcs]; rw [hle] at hj; omega)]; rfl) (fun j _ => hb.drew.frozen _) (rw_one acs_one _)
  have b1 := hb.drew.setCells (rw acs (L.drop i)) ((i + 1) * 6) (by rw [hle, hcs]; omega)
  have v1 : Blk (w.drew.setCells g ((i + 1) * 6) (rw acs (L.drop i))) vb 24 (acs x).toArray := hv.drew.keep ((Keeps.refl [g] w.drew).setCells _ _ (.inl (by simp))) (by simpa using hne)
  obtain ⟨W1, hW1⟩ : ∃ W1, W1 = w.drew.setCells g ((i + 1) * 6) (rw acs (L.drop i)) := ⟨_, rfl⟩
  have k1 : Keeps [g] w W1 := by rw [hW1]; exact ((Keeps.refl [g] w).drew).setCells _ _ (.inl (by simp))
  rw [← hW1] at hcp1 b1 v1
  have hl1 : (splice cur.toList ((i + 1) * 6) (rw acs (L.drop i))).length = cap * 6 := by rw [splice_len (by rw [hle, Array.length_toList, hcs]; omega), Array.length_toList, hcs]
  have hcp2 : ∀ ty dc, (Builtin.copy_ #[22, 22] ty #[.slice (some ⟨g, i * 6, none⟩) (n + 1 - i) dc, .slice (some ⟨vb, 0, none⟩) 1 1]).run Try.prog W1 = .ok (goInt (1 : Nat)) (W1.setCells g (i * 6) (acs x)) := fun ty dc =>
    run_copy_ar W1 ty g (i * 6) (n + 1 - i) dc ⟨vb, 0, none⟩ 1 1 (acs x) 1 (by omega) rfl
      (fun j v hj => by rw [add_of_plain, Nat.zero_add, v1.cell]; simpa using hj)
      (fun j hj => by rw [b1.cell, List.getElem?_toArray, List.getElem?_eq_getElem (by rw [hl1]; rw [acs_len] at hj; omega)]; rfl) (fun j _ => b1.frozen _) (acs_one x)
  have b2 := b1.setCells (acs x) (i * 6) (by rw [List.size_toArray, hl1, acs_len]; omega)
  have o2 : (W1.setCells g (i * 6) (acs x)).ownsRow 0 24 6 (.slice (some ⟨g, 0, none⟩) (n + 1) cap) (n + 1) (rw acs (L.take i ++ x :: L.drop i)) := by
    refine own_of_blk b2 hroom (by unfold maxLen; omega) ?_ ?_
    · rw [List.size_toArray, splice_len (by rw [List.toList_toArray, hl1, acs_len]; omega), List.toList_toArray, hl1]
    · rw [List.toList_toArray, List.toList_toArray, show (i + 1) * 6 = i * 6 + 6 by omega, spliceA _ _ _ (i * 6) ((n + 1) * 6) (by rw [hle, Array.length_toList, hcs]; omega) (acs_len x) (by rw [hle]; omega), rw_append, rw_cons]
      have e : cur.toList.take (i * 6) = rw acs (L.take i) := by
        rw [← rw_take acs_len, ← hx, List.take_take, Nat.min_eq_left (by omega)]
      rw [e, List.append_assoc]
  have fin : Ins w (some ⟨g, 0, none⟩) cap L i x (.returned (.slice (some ⟨g, 0, none⟩) (n + 1) cap)) (W1.setCells g (i * 6) (acs x)) :=
    ⟨_, rfl, by rw [← hnl]; exact o2, k1.setCells _ _ (.inl (by simp)), fun y hy => .inl (by simpa using hy)⟩
  have HF := Lib.hid fin
  have z1 : ¬ ((i : Int) = (n : Int)) := by omega
  have hb2 : cap ≠ i + 1 := by omega
  have hb4 : cap ≠ i := by omega
  have hw1 : IntKind.i64.wrap ((i : Int) + 1) = (i : Int) + 1 := by rw [IntKind.wrap_i64]; omega
  have hp0 : (i : Int) + 1 ≤ (n : Int) + 1 := by omega
  have hp1 : (0 : Int) ≤ (i : Int) + 1 := by omega
  have hp2 : ((i : Int) + 1).toNat = i + 1 := by omega
  have hp3 : (i : Int) ≤ (n : Int) + 1 := by omega
  have hp4 : (i : Int) ≤ (n : Int) := by omega
  have hp5 : (0 : Int) ≤ (n : Int) + 1 := by omega
  have hp6 : ((n : Int) + 1).toNat = n + 1 := by omega
  have hp7 : (n : Int) + 1 ≤ (cap : Int) := by omega
  have hp8 : n + 1 - (i + 1) = n - i := by omega
  clear fin o2 b2 b1 v1 hb hx hl1 hcs hle ho hv hnl hW1 hor hdrop
  go_enter Try.func28, Try.ntmps28
  go_wp2_with (simp only [hov])
  go_region_law (refine step_copy_run rfl _ _ 22 22 rfl _ _ (by simp [Act.eval, Act.put]) (by simp [Act.eval, Act.put]) (hcp1 _ _ _) ?_)
  go_wp2_with (at_builtin; refine wpList_copy_run _ rfl _ _ 22 22 rfl _ _ rfl rfl (hcp2 _ _) ?_)
  go_ret
  exact HF.out
set_option maxRecDepth 100000 in
set_option maxHeartbeats 3200000 in
theorem insert_grow (w : World) (g vb i : Nat) (L : List Ar) (x : Ar) (hi : i < L.length) (hn2 : L.length ≤ 1000000)
    (ho : w.ownsRow 0 24 6 (.slice (some ⟨g, 0, none⟩) L.length L.length) L.length (rw acs L)) (hv : Blk w vb 24 (acs x).toArray) :
    Calls Try.prog 28 #[.slice (some ⟨g, 0, none⟩) L.length L.length, .int .i64 i, .slice (some ⟨vb, 0, none⟩) 1 1] w fun e w' => Ins w (some ⟨g, 0, none⟩) L.length L i x e w' := by
  obtain ⟨cur, hb, hnc, hcm, hcs, hx⟩ := own_blk ho
  have hle := rw_len acs_len (L.drop i)
  rw [List.length_drop] at hle
  have hlt := rw_len acs_len (L.take i)
  rw [List.length_take, Nat.min_eq_left (by omega)] at hlt
  obtain ⟨i0, hi0, hz0, hzs, hzb⟩ := info_parts info24
  have hdrop : ∀ j v, (rw acs (L.drop i))[j]? = some v → (rw acs L)[i * 6 + j]? = some v := fun j v hj => by
    rw [← rw_drop acs_len, List.getElem?_drop] at hj; exact hj
  have htake : ∀ j v, (rw acs (L.take i))[j]? = some v → (rw acs L)[j]? = some v := fun j v hj => by
    rw [← rw_take acs_len, List.getElem?_take] at hj
    split at hj
    · exact hj
    · cases hj
  obtain ⟨n, hnl⟩ : ∃ n, n = L.length := ⟨_, rfl⟩
  rw [← hnl] at hi hn2 ho hcs hx hle ⊢
  have hgl := hb.lt
  have hvl := hv.lt
  obtain ⟨m, hm⟩ : ∃ m, m = n + 1 - i := ⟨_, rfl⟩
  have hmI : (n : Int) + 1 - (i : Int) = (m : Int) := by omega
  have him : i + m = n + 1 := by omega
  have hold : (Builtin.firstCells i0.size i (.slice (some ⟨g, 0, none⟩) i n)).run Try.prog w.drew = .ok (rw acs (L.take i)).toArray w.drew := by
    rw [hzs]
    exact run_firstCells_some w.drew 6 i ⟨g, 0, none⟩ i n (rw acs (L.take i)) hlt (fun j v hj => by rw [add_of_plain, Nat.zero_add]; exact own_cell (own_drew ho) (htake j v hj))
  have hrz : ∀ ty, (Builtin.append_ #[22, 3] ty #[.slice (some ⟨g, 0, none⟩) i n, .int .i64 ((n : Int) + 1 - (i : Int))]).run Try.prog w =
      .ok (.slice (some ⟨w.heap.size, 0, none⟩) (n + 1) (grownCap w (n + 1) n 24)) (w.drew.alloc (.cells ((rw acs (L.take i)).toArray ++ Builtin.zeroCells #[.int .i64 0, .int .i64 0, .string ⟨#[]⟩, .int .i64 0, .bool false, .bool false] m ++ Builtin.zeroCells #[.int .i64 0, .int .i64 0, .string ⟨#[]⟩, .int .i64 0, .bool false, .bool false] (grownCap w (n + 1) n 24 - (n + 1))) 24)) := fun ty => by
    have h := Lib.run_append_grow_zeros w 22 3 ty 24 i0 _ .i64 .i64 Try.underlying22 Try.underlying3 hi0 hz0 (some ⟨g, 0, none⟩) i n (rw acs (L.take i)) hold m (by omega) (by omega) (by omega) (by omega) (by rw [hzb]; omega) (by rw [hzb, him]; exact growslice_fits (by omega) (by omega))
    rw [him] at h
    rw [hmI]
    exact h
  have hGn : n + 1 ≤ grownCap w (n + 1) n 24 := grownCap_ge w _ _ _
  have hG63 := grownCap_le_maxLen w (n + 1) n 24 (by unfold maxLen; omega)
  obtain ⟨G, hG⟩ : ∃ G, G = grownCap w (n + 1) n 24 := ⟨_, rfl⟩
  rw [← hG] at hrz hGn hG63
  obtain ⟨ROW, hROW⟩ : ∃ ROW : Array Value, ROW = (rw acs (L.take i)).toArray ++ Builtin.zeroCells #[.int .i64 0, .int .i64 0, .string ⟨#[]⟩, .int .i64 0, .bool false, .bool false] m ++ Builtin.zeroCells #[.int .i64 0, .int .i64 0, .string ⟨#[]⟩, .int .i64 0, .bool false, .bool false] (G - (n + 1)) := ⟨_, rfl⟩
  rw [← hROW] at hrz
  have hRl : ROW.size = G * 6 := by
    rw [hROW]
    simp [Builtin.zeroCells, hlt]
    omega
  have hRt : ROW.toList.take (i * 6) = rw acs (L.take i) := by
    rw [hROW, Array.toList_append, Array.toList_append, List.append_assoc]
    exact List.take_left' hlt
  unfold maxLen at hG63
  obtain ⟨W1, hW1⟩ : ∃ W1, W1 = w.drew.alloc (.cells ROW 24) := ⟨_, rfl⟩
  have b1 : Blk W1 w.heap.size 24 ROW := by rw [hW1]; exact Blk.new w.drew 24 ROW
  have k1 : Keeps [] w W1 := by rw [hW1]; exact ((Keeps.refl [] w).drew).alloc _
  have v1 := hv.keep k1 (by simp)
  have hcpA : ∀ ty dc, (Builtin.copy_ #[22, 22] ty #[.slice (some ⟨w.heap.size, i * 6, none⟩) (n + 1 - i) dc, .slice (some ⟨vb, 0, none⟩) 1 1]).run Try.prog W1 = .ok (goInt (1 : Nat)) (W1.setCells w.heap.size (i * 6) (acs x)) := fun ty dc =>
    run_copy_ar W1 ty w.heap.size (i * 6) (n + 1 - i) dc ⟨vb, 0, none⟩ 1 1 (acs x) 1 (by omega) rfl
      (fun j v hj => by rw [add_of_plain, Nat.zero_add, v1.cell]; simpa using hj)
      (fun j hj => by rw [b1.cell, Array.getElem?_eq_getElem (by rw [hRl]; rw [acs_len] at hj; omega)]; rfl) (fun j _ => b1.frozen _) (acs_one x)
  have b2 := b1.setCells (acs x) (i * 6) (by rw [hRl, acs_len]; omega)
  have k2 : Keeps [] w (W1.setCells w.heap.size (i * 6) (acs x)) := k1.setCells _ _ (.inr (Nat.le_refl _))
  obtain ⟨W2, hW2⟩ : ∃ W2, W2 = W1.setCells w.heap.size (i * 6) (acs x) := ⟨_, rfl⟩
  rw [← hW2] at hcpA b2 k2
  have s2 := own_keep ho (k2.drew) (by simp)
  have hl2 : (splice ROW.toList (i * 6) (acs x)).length = G * 6 := by rw [splice_len (by rw [acs_len, Array.length_toList, hRl]; omega), Array.length_toList, hRl]
  have hcpB : ∀ ty dc sc, (Builtin.copy_ #[22, 22] ty #[.slice (some ⟨w.heap.size, (i + 1) * 6, none⟩) (n - i) dc, .slice (some ⟨g, i * 6, none⟩) (n - i) sc]).run Try.prog W2.drew = .ok (goInt (n - i : Nat)) (W2.drew.setCells w.heap.size ((i + 1) * 6) (rw acs (L.drop i))) := fun ty dc sc =>
    run_copy_ar W2.drew ty w.heap.size ((i + 1) * 6) (n - i) dc ⟨g, i * 6, none⟩ (n - i) sc (rw acs (L.drop i)) (n - i) (by omega) hle
      (fun j v hj => by rw [add_of_plain]; exact own_cell s2 (hdrop j v hj))
      (fun j hj => by rw [b2.drew.cell, List.getElem?_toArray, List.getElem?_eq_getElem (by rw [hl2]; rw [hle] at hj; omega)]; rfl) (fun j _ => b2.drew.frozen _) (rw_one acs_one _)
  have b3 := b2.drew.setCells (rw acs (L.drop i)) ((i + 1) * 6) (by rw [List.size_toArray, hl2, hle]; omega)
  have o3 : (W2.drew.setCells w.heap.size ((i + 1) * 6) (rw acs (L.drop i))).ownsRow 0 24 6 (.slice (some ⟨w.heap.size, 0, none⟩) (n + 1) G) (n + 1) (rw acs (L.take i ++ x :: L.drop i)) := by
    refine own_of_blk b3 hGn (by unfold maxLen; omega) ?_ ?_
    · rw [List.size_toArray, splice_len (by rw [List.toList_toArray, hl2, hle]; omega), List.toList_toArray, hl2]
    · rw [List.toList_toArray, List.toList_toArray, show (i + 1) * 6 = i * 6 + 6 by omega, spliceB _ _ _ (i * 6) ((n + 1) * 6) (by rw [hle, Array.length_toList, hRl]; omega) (acs_len x) (by rw [hle]; omega), hRt, rw_append, rw_cons, List.append_assoc]
  have fin : Ins w (some ⟨g, 0, none⟩) n L i x (.returned (.slice (some ⟨w.heap.size, 0, none⟩) (n + 1) G)) (W2.drew.setCells w.heap.size ((i + 1) * 6) (rw acs (L.drop i))) :=
    ⟨_, rfl, by rw [← hnl]; exact o3, (k2.drew.mono (by simp)).setCells _ _ (.inr (Nat.le_refl _)), fun y hy => .inr (by simp at hy; omega)⟩
  have HF := Lib.hid fin
  have z1 : ¬ ((i : Int) = (n : Int)) := by omega
  have z3 : (n : Int) < (n : Int) + 1 := by omega
  have z4 : n ≠ i := by omega
  have hw1 : IntKind.i64.wrap ((i : Int) + 1) = (i : Int) + 1 := by rw [IntKind.wrap_i64]; omega
  have hp0 : (i : Int) + 1 ≤ (n : Int) + 1 := by omega
  have hp1 : (0 : Int) ≤ (i : Int) + 1 := by omega
  have hp2 : ((i : Int) + 1).toNat = i + 1 := by omega
  have hp3 : (i : Int) ≤ (n : Int) + 1 := by omega
  have hp4 : (i : Int) ≤ (n : Int) := by omega
  have hp8 : n + 1 - (i + 1) = n - i := by omega
  have hG1 : G ≠ i + 1 := by omega
  have hG0 : G ≠ i := by omega
  rw [hW1] at hcpA
  have hcpA : ∀ ty dc, (Builtin.copy_ #[22, 22] ty #[.slice (some ⟨w.heap.size, i * 6, none⟩) (n + 1 - i) dc, .slice (some ⟨vb, 0, none⟩) 1 1]).run Try.prog (w.alloc (.cells ROW 24)).drew = .ok (goInt (1 : Nat)) W2 := hcpA
  clear fin o3 b3 b2 b1 v1 s2 k1 k2 hb hx hcs hle ho hv hnl hW1 hW2 hl2 hold hROW hRl hG hi0 hz0 hzs hzb hRt hdrop htake hlt hmI him hm
  go_enter Try.func28, Try.ntmps28
  go_wp2_with (first
    | (at_builtin; refine Lib.wpList_append_run _ rfl _ _ _ _ rfl _ _ rfl rfl _ _ (hrz _) ?_)
    | (at_builtin; refine wpList_copy_run _ rfl _ _ 22 22 rfl _ _ rfl rfl (hcpA _ _) ?_))
  go_region_law (refine step_copy_run rfl _ _ 22 22 rfl _ _ (by simp [Act.eval, Act.put]) (by simp [Act.eval, Act.put]) (hcpB _ _ _) ?_)
  go_wp2
  go_ret
  exact HF.out
/-- Insert, at whatever place. -/
theorem insert_any (w : World) (A : Option Addr) (cap vb i : Nat) (L : List Ar) (x : Ar) (hi : i ≤ L.length) (hn2 : L.length ≤ 1000000) (hne : vb ∉ fp (.slice A L.length cap))
    (ho : w.ownsRow 0 24 6 (.slice A L.length cap) L.length (rw acs L)) (hv : Blk w vb 24 (acs x).toArray) :
    Calls Try.prog 28 #[.slice A L.length cap, .int .i64 i, .slice (some ⟨vb, 0, none⟩) 1 1] w fun e w' => Ins w A cap L i x e w' := by
  by_cases hin : i = L.length
  · subst hin
    exact insert_end w A cap vb L x hn2 ho hv
  · obtain ⟨_, _, hvv, hcap, hmax, hA⟩ := own_shape ho
    obtain ⟨rfl, -, rfl⟩ : A = _ ∧ L.length = _ ∧ cap = _ := by injection hvv with h1 h2 h3; exact ⟨h1, rfl, h3⟩
    obtain ⟨g, rfl⟩ := hA (by omega)
    by_cases hc : L.length + 1 ≤ cap
    · exact insert_shift w g cap vb i L x (by omega) hn2 hc (fun e => hne (by simp [fp, Value.ownBlock, e])) ho hv
    · obtain rfl : cap = L.length := by omega
      exact insert_grow w g vb i L x (by omega) hn2 ho hv
end Go.Proofs.Ytiffjaociblboaa
