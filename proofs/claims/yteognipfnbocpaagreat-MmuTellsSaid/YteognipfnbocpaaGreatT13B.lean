/- Texts of elder seats, turned to this one. -/
import Derived.Test.YteognipfnbocpaaGreatT13A
import Derived.Lib.Overlaps
import Derived.Lib.AppendZerosOnto
import Derived.Lib.JoinLaws
import Derived.Lib.SliceRun
import Derived.Lib.Walk
import Derived.Laws.NewBlocks
import Derived.Shelf.RegionOpenPlain
namespace Go.Proofs.YteognipfnbocpaaGreat.T13
open Go.RowKit

/-- 'copy' of entries: all is read before anything is written. -/
theorem run_copy_en (w : World) (ty : TypeId) (b o dLen dCap : Nat) (a : Addr) (sLen sCap : Nat) (cs : List Value) (m : Nat) (hm : min sLen dLen = m) (hn : cs.length = m * 4)
    (hsrc : ∀ j v, cs[j]? = some v → w.cell? (a.add j) = some v) (hc : ∀ j, j < cs.length → (w.cell? ⟨b, o + j, none⟩).isSome = true) (hf : ∀ j, j < cs.length → w.frozen? ⟨b, o + j, none⟩ = false) (h1 : ∀ v ∈ cs, v.oneCell' = true) :
    (Builtin.copy_ #[49, 49] ty #[.slice (some ⟨b, o, none⟩) dLen dCap, .slice (some a) sLen sCap]).run Tryz.prog w = .ok (goInt m) (w.setCells b o cs) := by
  have hl := run_loadCells_list (P := Tryz.prog) w a cs hsrc
  have hst := run_storeCells_cells (P := Tryz.prog) b o cs 0 w (by simpa using hc) (by simpa using hf) h1
  obtain ⟨i, hi, hz, hs, hb⟩ := info_parts info83
  simp [Builtin.copy_, run_underlying Tryz.underlying49, Builtin.lenOf, Builtin.firstCells, sizeOf, typeInfo, hi, hs, hm, ← hn, hl, hst]
section
variable {P : Program}
theorem wpList_copy_run (w : World) {ops : Array Oper} {rest : List Oper} {o : Oper} {a : Act} {Q : Exit → Act → World → Prop} (hgd : o.guard = none) (d s : Operand) (t t' : TypeId)
    (ho : o.op = .call { callee := .builtin .copy, args := #[d, s], argTypes := #[t, t'] }) (v u : Value) (hd : a.eval d = v) (hs : a.eval s = u) {v' : Value} {w' : World}
    (hr : (Builtin.copy_ #[t, t'] o.type #[v, u]).run P w = .ok v' w') (h : wpList P ops Q rest (a.put o.dst v') w') : wpList P ops Q (o :: rest) a w := by
  refine wpList_plain hgd fun _ hK => ?_
  unfold Oper.wp execOp
  simp only [ho, resolve, invoke, builtin, Sem.run_bind, Sem.run_pure, Result.andThen_ok, List.map_toArray, List.map_cons, List.map_nil, hd, hs, hr]
  exact hK _ _ h
theorem step_copy_run {ops : Array Oper} {o : Oper} {a : Act} {w : World} {K : Act → World → Prop} {Q : Exit → Act → World → Prop} {E : Prop}
    (hg : o.guard = none) (d x : Operand) (dT sT : TypeId) (hop : o.op = Op.call { callee := Callee.builtin Builtin.copy, args := #[d, x], argTypes := #[dT, sT] })
    (v u : Value) (hd : a.eval d = v) (hx : a.eval x = u) {v' : Value} {w' : World} (hr : (Builtin.copy_ #[dT, sT] o.type #[v, u]).run P w = .ok v' w') (hK : K (a.put o.dst v') w') :
    if Region.wanted o (yielded ops a.tmps) = true then Oper.wp P o a w K Q else E := by
  have hw : Region.wanted o (yielded ops a.tmps) = true := by simp [Region.wanted, hg]
  rw [if_pos hw]
  unfold Oper.wp
  simp [execOp, hop, resolve, invoke, builtin, hd, hx, hr, Result.andThen]
  exact hK
end
theorem blk_shape {w : World} {b : Nat} {cs : Array Value} (h : Blk w b 83 cs) : w.shape? b = some (83, cs.size) := by
  unfold Blk at h
  simp [World.shape?, h]
theorem splice2 (C X Y : List Value) (n : Nat) (hC : (n + 1) * 4 ≤ C.length) (hX : X.length = n * 4) (hY : Y.length = 4) : (splice (splice C 4 X) 0 Y).take ((n + 1) * 4) = Y ++ X := by
  have h4 : (C.take 4).length = 4 := by rw [List.length_take]; omega
  have e : (splice C 4 X).drop 4 = X ++ C.drop (4 + X.length) := by
    unfold splice
    rw [List.append_assoc]
    exact List.drop_left' h4
  have e2 : splice (splice C 4 X) 0 Y = (Y ++ X) ++ C.drop (4 + X.length) := by
    show (splice C 4 X).take 0 ++ Y ++ (splice C 4 X).drop (0 + Y.length) = _
    rw [hY, List.take_zero, List.nil_append, show 0 + 4 = 4 from rfl, e, List.append_assoc]
  rw [e2]
  exact List.take_left' (by rw [List.length_append, hX, hY]; omega)
theorem splice3 (C X Y : List Value) (n : Nat) (hX : X.length = n * 4) (hY : Y.length = 4) : (splice (splice C 0 Y) 4 X).take ((n + 1) * 4) = Y ++ X := by
  have e : (splice C 0 Y).take 4 = Y := by
    show (C.take 0 ++ Y ++ C.drop (0 + Y.length)).take 4 = Y
    rw [List.take_zero, List.nil_append]
    exact List.take_left' hY
  have e2 : splice (splice C 0 Y) 4 X = (Y ++ X) ++ (splice C 0 Y).drop (4 + X.length) := by
    show (splice C 0 Y).take 4 ++ X ++ _ = _
    rw [e]
  rw [e2]
  exact List.take_left' (by rw [List.length_append, hX, hY]; omega)
end Go.Proofs.YteognipfnbocpaaGreat.T13
namespace Go.Proofs.YteognipfnbocpaaGreat.T13
open Go.RowKit

/-- What Insert leaves. -/
def Ins (w : World) (A : Option Addr) (cap : Nat) (L : List En) (x : En) (e : Ending) (w' : World) : Prop :=
  ∃ v, e = .returned v ∧ w'.ownsRow 0 83 4 v (L.length + 1) (es (x :: L)) ∧ Keeps (fp (.slice A L.length cap)) w w' ∧ ∀ g ∈ fp v, g ∈ fp (.slice A L.length cap) ∨ w.heap.size ≤ g
theorem es_cons (x : En) (L : List En) : es (x :: L) = ec x ++ es L := rw_cons x L
theorem own_e34 (w : World) : (w.alloc (.cells #[] 83)).ownsRow 0 83 4 (.slice (some ⟨w.heap.size, 0, none⟩) 0 0) 0 [] := own_of_blk (Blk.new w 83 #[]) (by omega) (by omega) rfl rfl
theorem reads_en {w : World} {vb : Nat} {x : En} (h : Blk w vb 83 (ec x).toArray) : Reads w w.heap.size 4 (some ⟨vb, 0, none⟩) 1 (ec x) :=
  ⟨rfl, fun _ => ⟨_, rfl, h.lt, fun j u hu => by rw [Addr.add_lit, Nat.zero_add, h.cell]; simpa using hu⟩⟩

set_option maxRecDepth 100000 in
set_option maxHeartbeats 1600000 in
theorem insert_none (w : World) (A : Option Addr) (cap vb : Nat) (x : En) (ho : w.ownsRow 0 83 4 (.slice A 0 cap) 0 (es [])) (hv : Blk w vb 83 (ec x).toArray) :
    Calls Tryz.prog 90 #[.slice A 0 cap, .int .i64 0, .slice (some ⟨vb, 0, none⟩) 1 1] w fun e w' => Ins w A cap [] x e w' := by
  obtain ⟨_, _, hvv, hcap, hmax, hA⟩ := own_shape ho
  obtain ⟨rfl, -, rfl⟩ : A = _ ∧ 0 = _ ∧ cap = _ := by injection hvv with h1 h2 h3; exact ⟨h1, h2, h3⟩
  unfold maxLen at hmax
  have fin : ∀ (v' : Value) (w' : World), w'.ownsRow 0 83 4 v' (0 + 1) (es [] ++ ec x) → Keeps (fp (.slice A 0 cap)) w w' → (∀ g ∈ fp v', g ∈ fp (.slice A 0 cap) ∨ w.heap.size ≤ g) → Ins w A cap [] x (.returned v') w' :=
    fun v' w' o k f => ⟨v', rfl, o, k, f⟩
  have HF := Lib.hid fin
  have HO := Lib.hid ho
  clear fin hvv hA
  go_enter Tryz.func90, Tryz.ntmps90
  rcases A with _ | a
  · go_wp2_with (at_builtin; refine wpList_app _ rfl (.tmp 23) (.tmp 24) _ rfl 83 (.agg #[.int .i64 0, .int .i64 0, .int .i64 0, .bool false]) 4 32 Tryz.underlying49 info83 rfl (by omega) (.slice none 0 cap) 0 _ rfl HO.out _ _ _ _ _ rfl (reads_en hv) (ec_one x) (by unfold maxLen; omega) (by omega) ?_)
    all_goals
      intro v' w' ho' hk' hf'
      go_wp2
      go_ret
      exact HF.out _ _ ho' hk' (fun y hy => by have := hf' y hy; simpa using this)
  · obtain ⟨ab, ao, asp⟩ := a
    go_wp2_with (at_builtin; refine wpList_app _ rfl (.tmp 23) (.tmp 24) _ rfl 83 (.agg #[.int .i64 0, .int .i64 0, .int .i64 0, .bool false]) 4 32 Tryz.underlying49 info83 rfl (by omega) (.slice (some ⟨ab, ao, asp⟩) 0 cap) 0 _ rfl HO.out _ _ _ _ _ rfl (reads_en hv) (ec_one x) (by unfold maxLen; omega) (by omega) ?_)
    all_goals
      intro v' w' ho' hk' hf'
      go_wp2
      go_ret
      exact HF.out _ _ ho' hk' (fun y hy => by have := hf' y hy; simpa using this)

set_option maxRecDepth 100000 in
set_option maxHeartbeats 3200000 in
theorem insert_shift (w : World) (g cap vb : Nat) (L : List En) (x : En) (hn : 0 < L.length) (hn2 : L.length ≤ 1000000) (hroom : L.length + 1 ≤ cap) (hne : vb ≠ g)
    (ho : w.ownsRow 0 83 4 (.slice (some ⟨g, 0, none⟩) L.length cap) L.length (es L)) (hv : Blk w vb 83 (ec x).toArray) :
    Calls Tryz.prog 90 #[.slice (some ⟨g, 0, none⟩) L.length cap, .int .i64 0, .slice (some ⟨vb, 0, none⟩) 1 1] w fun e w' => Ins w (some ⟨g, 0, none⟩) cap L x e w' := by
  obtain ⟨cur, hb, hnc, hcm, hcs, hx⟩ := own_blk ho
  unfold maxLen at hcm
  have hle := es_len L
  have hov : ∀ lb cb, (callFunc 102 #[.slice (some ⟨vb, 0, none⟩) 1 1, .slice (some ⟨g, 4, none⟩) lb cb]).run Tryz.prog w = .ok (.value (.bool false)) w := fun lb cb => by
    rw [run_callFunc_extern Tryz.func102 (by kernel_rfl) (by kernel_rfl) (by kernel_rfl) (e := Extern.SlicesOverlaps.overlaps #[49, 49] #[4]) (by kernel_rfl),
      Lib.run_overlaps_apart w 49 4 83 Tryz.underlying49 4 (fun w => by kernel_rfl) ⟨vb, 0, none⟩ ⟨g, 4, none⟩ 1 1 lb cb hne 83 83 4 cur.size (blk_shape hv) (blk_shape hb) (by omega) (hv.frozen 0) (hv.frozen 4)]
    rfl
  obtain ⟨n, hnl⟩ : ∃ n, n = L.length := ⟨_, rfl⟩
  rw [← hnl] at hn hn2 hroom ho hnc hx hle ⊢
  have hcp1 : ∀ ty dc sc, (Builtin.copy_ #[49, 49] ty #[.slice (some ⟨g, 4, none⟩) n dc, .slice (some ⟨g, 0, none⟩) (n + 1) sc]).run Tryz.prog w.drew = .ok (goInt n) (w.drew.setCells g 4 (es L)) := fun ty dc sc => by
    have h := run_copy_en w.drew ty g 4 n dc ⟨g, 0, none⟩ (n + 1) sc (es L) n (by omega) hle
      (fun j v hj => by rw [Addr.add_lit, Nat.zero_add]; exact own_cell (own_drew ho) hj)
      (fun j hj => by rw [hb.drew.cell, Array.getElem?_eq_getElem (by rw [hcs]; rw [hle] at hj; omega)]; rfl) (fun j _ => hb.drew.frozen _) (es_one L)
    exact h
  have b1 := hb.drew.setCells (es L) 4 (by rw [hle, hcs]; omega)
  have v1 : Blk (w.drew.setCells g 4 (es L)) vb 83 (ec x).toArray := hv.drew.keep ((Keeps.refl [g] w.drew).setCells _ _ (.inl (by simp))) (by simpa using hne)
  obtain ⟨W1, hW1⟩ : ∃ W1, W1 = w.drew.setCells g 4 (es L) := ⟨_, rfl⟩
  have k1 : Keeps [g] w W1 := by rw [hW1]; exact ((Keeps.refl [g] w).drew).setCells _ _ (.inl (by simp))
  rw [← hW1] at hcp1 b1 v1
  have hl1 : (splice cur.toList 4 (es L)).length = cap * 4 := by rw [splice_len (by rw [hle, Array.length_toList, hcs]; omega), Array.length_toList, hcs]
  have hcp2 : ∀ ty dc, (Builtin.copy_ #[49, 49] ty #[.slice (some ⟨g, 0, none⟩) (n + 1) dc, .slice (some ⟨vb, 0, none⟩) 1 1]).run Tryz.prog W1 = .ok (goInt 1) (W1.setCells g 0 (ec x)) := fun ty dc => by
    have h := run_copy_en W1 ty g 0 (n + 1) dc ⟨vb, 0, none⟩ 1 1 (ec x) 1 (by omega) rfl
      (fun j v hj => by rw [Addr.add_lit, Nat.zero_add, v1.cell]; simpa using hj)
      (fun j hj => by rw [b1.cell, List.getElem?_toArray, List.getElem?_eq_getElem (by rw [hl1]; rw [ec_len] at hj; omega)]; rfl) (fun j _ => b1.frozen _) (ec_one x)
    exact h
  have b2 := b1.setCells (ec x) 0 (by rw [List.size_toArray, hl1, ec_len]; omega)
  have o2 : (W1.setCells g 0 (ec x)).ownsRow 0 83 4 (.slice (some ⟨g, 0, none⟩) (n + 1) cap) (n + 1) (es (x :: L)) := by
    refine own_of_blk b2 hroom (by unfold maxLen; omega) ?_ ?_
    · rw [List.size_toArray, splice_len (by rw [List.toList_toArray, hl1, ec_len]; omega), List.toList_toArray, hl1]
    · rw [List.toList_toArray, List.toList_toArray, splice2 _ _ _ n (by rw [Array.length_toList, hcs]; omega) hle (ec_len x), es_cons]
  have fin : Ins w (some ⟨g, 0, none⟩) cap L x (.returned (.slice (some ⟨g, 0, none⟩) (n + 1) cap)) (W1.setCells g 0 (ec x)) :=
    ⟨_, rfl, by rw [← hnl]; exact o2, k1.setCells _ _ (.inl (by simp)), fun y hy => .inl (by simpa using hy)⟩
  have HF := Lib.hid fin
  have z1 : ¬ ((0 : Int) = (n : Int)) := by omega
  have z2 : n ≠ 0 := by omega
  have hb2 : cap ≠ 1 := by omega
  have hb4 : cap ≠ 0 := by omega
  have hw1 : IntKind.i64.wrap 1 = 1 := by rfl
  have hp0 : (1 : Int) ≤ (n : Int) + 1 := by omega
  have hp1 : (0 : Int) ≤ (n : Int) + 1 := by omega
  clear fin o2 b2 b1 v1 hb hx hl1 hcs hle ho hv hnl hW1
  go_enter Tryz.func90, Tryz.ntmps90
  go_wp2_with (simp only [hov])
  go_region_law (refine step_copy_run rfl _ _ 49 49 rfl _ _ (by simp [Act.eval, Act.put]) (by simp [Act.eval, Act.put]) (hcp1 _ _ _) ?_)
  go_wp2_with (at_builtin; refine wpList_copy_run _ rfl _ _ 49 49 rfl _ _ rfl rfl (hcp2 _ _) ?_)
  go_ret
  exact HF.out

set_option maxRecDepth 100000 in
set_option maxHeartbeats 3200000 in
theorem insert_grow (w : World) (g vb : Nat) (L : List En) (x : En) (hn : 0 < L.length) (hn2 : L.length ≤ 1000000)
    (ho : w.ownsRow 0 83 4 (.slice (some ⟨g, 0, none⟩) L.length L.length) L.length (es L)) (hv : Blk w vb 83 (ec x).toArray) :
    Calls Tryz.prog 90 #[.slice (some ⟨g, 0, none⟩) L.length L.length, .int .i64 0, .slice (some ⟨vb, 0, none⟩) 1 1] w fun e w' => Ins w (some ⟨g, 0, none⟩) L.length L x e w' := by
  obtain ⟨cur, hb, hnc, hcm, hcs, hx⟩ := own_blk ho
  have hle := es_len L
  obtain ⟨i0, hi0, hz0, hzs, hzb⟩ := info_parts info83
  obtain ⟨n, hnl⟩ : ∃ n, n = L.length := ⟨_, rfl⟩
  rw [← hnl] at hn hn2 ho hcs hx hle ⊢
  have hgl := hb.lt
  have hvl := hv.lt
  have hold : (Builtin.firstCells i0.size 0 (.slice (some ⟨g, 0, none⟩) 0 n)).run Tryz.prog w.drew = .ok (#[] : Array Value) w.drew := by
    rw [hzs]
    exact run_firstCells_some w.drew 4 0 ⟨g, 0, none⟩ 0 n [] (by simp) (fun j v hj => by simp at hj)
  have hrz : ∀ ty, (Builtin.append_ #[49, 3] ty #[.slice (some ⟨g, 0, none⟩) 0 n, .int .i64 ((n : Int) + 1)]).run Tryz.prog w =
      .ok (.slice (some ⟨w.heap.size, 0, none⟩) (n + 1) (grownCap w (n + 1) n 83)) (w.drew.alloc (.cells (#[] ++ Builtin.zeroCells #[.int .i64 0, .int .i64 0, .int .i64 0, .bool false] (n + 1) ++ Builtin.zeroCells #[.int .i64 0, .int .i64 0, .int .i64 0, .bool false] (grownCap w (n + 1) n 83 - (n + 1))) 83)) := fun ty => by
    have h := Lib.run_append_grow_zeros w 49 3 ty 83 i0 _ .i64 .i64 Tryz.underlying49 Tryz.underlying3 hi0 hz0 (some ⟨g, 0, none⟩) 0 n [] hold (n + 1) (by omega) (by omega) (by omega) (by omega) (by rw [hzb]; omega) (by rw [hzb, Nat.zero_add]; exact growslice_fits (by omega) (by omega))
    rw [Nat.zero_add] at h
    exact h
  have hGn : n + 1 ≤ grownCap w (n + 1) n 83 := grownCap_ge w _ _ _
  have hG63 := grownCap_le_maxLen w (n + 1) n 83 (by unfold maxLen; omega)
  obtain ⟨G, hG⟩ : ∃ G, G = grownCap w (n + 1) n 83 := ⟨_, rfl⟩
  rw [← hG] at hrz hGn hG63
  obtain ⟨ROW, hROW⟩ : ∃ ROW : Array Value, ROW = #[] ++ Builtin.zeroCells #[.int .i64 0, .int .i64 0, .int .i64 0, .bool false] (n + 1) ++ Builtin.zeroCells #[.int .i64 0, .int .i64 0, .int .i64 0, .bool false] (G - (n + 1)) := ⟨_, rfl⟩
  rw [← hROW] at hrz
  have hRl : ROW.size = G * 4 := by
    rw [hROW]
    simp [Builtin.zeroCells]
    omega
  unfold maxLen at hG63
  obtain ⟨W1, hW1⟩ : ∃ W1, W1 = w.drew.alloc (.cells ROW 83) := ⟨_, rfl⟩
  have b1 : Blk W1 w.heap.size 83 ROW := by rw [hW1]; exact Blk.new w.drew 83 ROW
  have k1 : Keeps [] w W1 := by rw [hW1]; exact ((Keeps.refl [] w).drew).alloc _
  have v1 := hv.keep k1 (by simp)
  have s1 := own_keep ho k1 (by simp)
  have hcpA : ∀ ty dc, (Builtin.copy_ #[49, 49] ty #[.slice (some ⟨w.heap.size, 0, none⟩) (n + 1) dc, .slice (some ⟨vb, 0, none⟩) 1 1]).run Tryz.prog W1 = .ok (goInt 1) (W1.setCells w.heap.size 0 (ec x)) := fun ty dc =>
    run_copy_en W1 ty w.heap.size 0 (n + 1) dc ⟨vb, 0, none⟩ 1 1 (ec x) 1 (by omega) rfl
      (fun j v hj => by rw [Addr.add_lit, Nat.zero_add, v1.cell]; simpa using hj)
      (fun j hj => by rw [b1.cell, Array.getElem?_eq_getElem (by rw [hRl]; rw [ec_len] at hj; omega)]; rfl) (fun j _ => b1.frozen _) (ec_one x)
  have b2 := b1.setCells (ec x) 0 (by rw [hRl, ec_len]; omega)
  have k2 : Keeps [] w (W1.setCells w.heap.size 0 (ec x)) := k1.setCells _ _ (.inr (Nat.le_refl _))
  obtain ⟨W2, hW2⟩ : ∃ W2, W2 = W1.setCells w.heap.size 0 (ec x) := ⟨_, rfl⟩
  rw [← hW2] at hcpA b2 k2
  have s2 := own_keep ho (k2.drew) (by simp)
  have hl2 : (splice ROW.toList 0 (ec x)).length = G * 4 := by rw [splice_len (by rw [ec_len, Array.length_toList, hRl]; omega), Array.length_toList, hRl]
  have hcpB : ∀ ty dc sc, (Builtin.copy_ #[49, 49] ty #[.slice (some ⟨w.heap.size, 4, none⟩) n dc, .slice (some ⟨g, 0, none⟩) n sc]).run Tryz.prog W2.drew = .ok (goInt n) (W2.drew.setCells w.heap.size 4 (es L)) := fun ty dc sc =>
    run_copy_en W2.drew ty w.heap.size 4 n dc ⟨g, 0, none⟩ n sc (es L) n (by omega) hle
      (fun j v hj => by rw [Addr.add_lit, Nat.zero_add]; exact own_cell s2 hj)
      (fun j hj => by rw [b2.drew.cell, List.getElem?_toArray, List.getElem?_eq_getElem (by rw [hl2]; rw [hle] at hj; omega)]; rfl) (fun j _ => b2.drew.frozen _) (es_one L)
  have b3 := b2.drew.setCells (es L) 4 (by rw [List.size_toArray, hl2, hle]; omega)
  have o3 : (W2.drew.setCells w.heap.size 4 (es L)).ownsRow 0 83 4 (.slice (some ⟨w.heap.size, 0, none⟩) (n + 1) G) (n + 1) (es (x :: L)) := by
    refine own_of_blk b3 hGn (by unfold maxLen; omega) ?_ ?_
    · rw [List.size_toArray, splice_len (by rw [List.toList_toArray, hl2, hle]; omega), List.toList_toArray, hl2]
    · rw [List.toList_toArray, List.toList_toArray, splice3 _ _ _ n hle (ec_len x), es_cons]
  have fin : Ins w (some ⟨g, 0, none⟩) n L x (.returned (.slice (some ⟨w.heap.size, 0, none⟩) (n + 1) G)) (W2.drew.setCells w.heap.size 4 (es L)) :=
    ⟨_, rfl, by rw [← hnl]; exact o3, (k2.drew.mono (by simp)).setCells _ _ (.inr (Nat.le_refl _)), fun y hy => .inr (by simp at hy; omega)⟩
  have HF := Lib.hid fin
  have z1 : ¬ ((0 : Int) = (n : Int)) := by omega
  have z2 : n ≠ 0 := by omega
  have z3 : (n : Int) < (n : Int) + 1 := by omega
  have hw1 : IntKind.i64.wrap 1 = 1 := by rfl
  have hp0 : (1 : Int) ≤ (n : Int) + 1 := by omega
  have hp1 : (0 : Int) ≤ (n : Int) + 1 := by omega
  have hG1 : G ≠ 1 := by omega
  have hG0 : G ≠ 0 := by omega
  rw [hW1] at hcpA
  have hcpA : ∀ ty dc, (Builtin.copy_ #[49, 49] ty #[.slice (some ⟨w.heap.size, 0, none⟩) (n + 1) dc, .slice (some ⟨vb, 0, none⟩) 1 1]).run Tryz.prog (w.alloc (.cells ROW 83)).drew = .ok (goInt 1) W2 := hcpA
  clear fin o3 b3 b2 b1 v1 s1 s2 k1 k2 hb hx hcs hle ho hv hnl hW1 hW2 hl2 hold hROW hRl hG hi0 hz0 hzs hzb
  go_enter Tryz.func90, Tryz.ntmps90
  go_wp2_with (first
    | (at_builtin; refine Lib.wpList_append_run _ rfl _ _ _ _ rfl _ _ rfl rfl _ _ (hrz _) ?_)
    | (at_builtin; refine wpList_copy_run _ rfl _ _ 49 49 rfl _ _ rfl rfl (hcpA _ _) ?_))
  go_region_law (refine step_copy_run rfl _ _ 49 49 rfl _ _ (by simp [Act.eval, Act.put]) (by simp [Act.eval, Act.put]) (hcpB _ _ _) ?_)
  go_wp2
  go_ret
  exact HF.out
end Go.Proofs.YteognipfnbocpaaGreat.T13
namespace Go.Proofs.YteognipfnbocpaaGreat.T13
open Go.RowKit

/-- A call of a Go function as one step of a region that draws its order ('go_region_law'). -/
theorem step_call {P : Program} {ops : Array Oper} {o : Oper} {a : Act} {w : World} {K : Act → World → Prop} {Q : Exit → Act → World → Prop} {E : Prop}
    (hg : o.guard = none) (f : Nat) (xs : Array Operand) (ts : Array TypeId) (hop : o.op = Op.call { callee := .value (.func f), args := xs, argTypes := ts }) (args : Array Value) (hx : xs.map a.eval = args)
    (eg : ∀ args w, (callFunc f args).run P w = .ok (.enter f args) w) {R : Ending → World → Prop} (hC : Calls P f args w R) (hK : ∀ e w', R e w' → ∃ v, e = .returned v ∧ K (a.put o.dst v) w') :
    if Region.wanted o (yielded ops a.tmps) = true then Oper.wp P o a w K Q else E := by
  have hw : Region.wanted o (yielded ops a.tmps) = true := by simp [Region.wanted, hg]
  rw [if_pos hw]
  unfold Oper.wp
  simp only [execOp, hop, resolve, invoke, Sem.run_bind, hx]
  simp [Act.eval, Deferred.ofValue, eg, Result.andThen]
  rw [Oper.upon_enter]
  refine hC.mono ?_
  intro e w' hR
  obtain ⟨v, rfl, h⟩ := hK e w' hR
  exact h
theorem insert_any (w : World) (A : Option Addr) (cap vb : Nat) (L : List En) (x : En) (hn2 : L.length ≤ 1000000) (hne : vb ∉ fp (.slice A L.length cap))
    (ho : w.ownsRow 0 83 4 (.slice A L.length cap) L.length (es L)) (hv : Blk w vb 83 (ec x).toArray) :
    Calls Tryz.prog 90 #[.slice A L.length cap, .int .i64 0, .slice (some ⟨vb, 0, none⟩) 1 1] w fun e w' => Ins w A cap L x e w' := by
  cases L with
  | nil => exact insert_none w A cap vb x ho hv
  | cons y r =>
    obtain ⟨_, _, hvv, hcap, hmax, hA⟩ := own_shape ho
    obtain ⟨rfl, -, rfl⟩ : A = _ ∧ (y :: r).length = _ ∧ cap = _ := by injection hvv with h1 h2 h3; exact ⟨h1, h2, h3⟩
    obtain ⟨g, rfl⟩ := hA (by simp)
    have hne2 : vb ≠ g := by simpa using hne
    by_cases hc : (y :: r).length + 1 ≤ cap
    · exact insert_shift w g cap vb (y :: r) x (by simp) hn2 hc hne2 ho hv
    · obtain rfl : cap = (y :: r).length := by omega
      exact insert_grow w g vb (y :: r) x (by simp) hn2 ho hv

set_option maxRecDepth 100000 in
set_option maxHeartbeats 3200000 in
theorem first_any (w : World) (F : List Nat) (p : Nat) (s : Tl) (x : En) (hn : s.n ≤ 1000) (hl : s.L.length + 1 ≤ s.n) (h : TlRep 95 w F p s) :
    Calls Tryz.prog 80 #[.pointer (some ⟨p, 0, none⟩), .agg #[.int .i64 x.s, .int .i64 x.p, .int .i64 x.f, .bool x.w]] w fun e w' => e = .returned (.tuple #[]) ∧ Next 95 w w' F p ⟨s.n, x :: s.L⟩ := by
  obtain ⟨A, cap, h⟩ := h
  have hf := h.f
  have hoff := h.off
  have hpl := h.b.lt
  have c1 : w.cell? ⟨p, 1, none⟩ = some (.slice A s.L.length cap) := h.b.cell 1
  obtain ⟨wa, hwa⟩ : ∃ W, W = w.alloc (.cells #[.int .i64 x.s, .int .i64 x.p, .int .i64 x.f, .bool x.w] 83) := ⟨_, rfl⟩
  have ka : Keeps [] w wa := by rw [hwa]; exact (Keeps.refl _ _).alloc _
  have ba : Blk wa w.heap.size 83 #[.int .i64 x.s, .int .i64 x.p, .int .i64 x.f, .bool x.w] := by rw [hwa]; exact Blk.new _ _ _
  have za : wa.heap.size = w.heap.size + 1 := by rw [hwa]; simp
  have HC : Hid (∀ W, Keeps [] wa W → W.cell? ⟨p, 1, none⟩ = some (.slice A s.L.length cap) ∧ W.cell? ⟨w.heap.size, 0, none⟩ = some (.int .i64 x.s) ∧ W.cell? ⟨w.heap.size, 1, none⟩ = some (.int .i64 x.p) ∧ W.cell? ⟨w.heap.size, 2, none⟩ = some (.int .i64 x.f) ∧ W.cell? ⟨w.heap.size, 3, none⟩ = some (.bool x.w)) :=
    Lib.hid (fun W hk => by have b := h.b.keep (ka.trans hk (by simp)) (by simp); have c := ba.keep hk (by simp); exact ⟨b.cell 1, c.cell 0, c.cell 1, c.cell 2, c.cell 3⟩)
  have kd : Keeps [] wa wa.drew := (Keeps.refl [] wa).drew
  obtain ⟨q0, q1, q2, q3, q4⟩ := HC.out _ kd
  have hvb : w.heap.size + 1 ∉ fp (.slice A s.L.length cap) := fun hx => by have := own_lt h.o hx; omega
  have kb : Keeps [] wa ((wa.drew).alloc (.cells #[.int .i64 x.s, .int .i64 x.p, .int .i64 x.f, .bool x.w] 83)) := kd.alloc _
  have bb : Blk ((wa.drew).alloc (.cells #[.int .i64 x.s, .int .i64 x.p, .int .i64 x.f, .bool x.w] 83)) (w.heap.size + 1) 83 (ec x).toArray := by
    have := Blk.new wa.drew 83 #[.int .i64 x.s, .int .i64 x.p, .int .i64 x.f, .bool x.w]
    rw [show wa.drew.heap.size = wa.heap.size from rfl, za] at this
    exact this
  have hi := insert_any _ A cap (w.heap.size + 1) s.L x (by omega) hvb (own_keep h.o (ka.trans kb (by simp)) (by simp)) bb
  have HI := Lib.hid hi
  have QB := (HC.out _ kb).2
  have qb := (HC.out _ kb).1
  have hva : w.heap.size ∉ fp (.slice A s.L.length cap) := fun hx => by have := own_lt h.o hx; omega
  have HA := Lib.hid (ba.keep kb (by simp))
  have HB := Lib.hid (h.b.keep (ka.trans kb (by simp)) (by simp))
  have ht := h.t
  have KAB := Lib.hid (ka.trans kb (by simp))
  clear hi h ba bb
  subst hwa
  go_enter Tryz.func80, Tryz.ntmps80
  go_wp2_with fail
  go_region_law (refine step_call rfl 90 _ _ rfl #[.slice A s.L.length cap, .int .i64 0, .slice (some ⟨w.heap.size + 1, 0, none⟩) 1 1] (by simp [Act.eval]) (enters_of Tryz.func90 (by kernel_rfl) rfl) HI.out ?_; rintro e w1 ⟨v, rfl, o1, k1, f1⟩; refine ⟨_, rfl, ?_⟩; obtain ⟨A1, cap1, rfl, -, -, -⟩ := own_shape o1; have b1 := HB.out.keep k1 hoff; have d1 : w1.cell? ⟨p, 1, none⟩ = some (.slice A s.L.length cap) := b1.cell 1; have fz : w1.frozen? ⟨p, 1, none⟩ = false := b1.frozen 1)
  all_goals
    go_wp2
    go_end0
    have hs := k1.size
    have hs0 : w.heap.size + 1 + 1 ≤ w1.heap.size := by simpa using hs
    have hoff1 : p ∉ fp (.slice A1 (s.L.length + 1) cap1) := own_blk_off o1 b1 (by decide)
    refine ⟨rfl, p :: fp (.slice A1 (s.L.length + 1) cap1), ⟨A1, cap1, rfl, b1.set_ 1 _, own_far o1 hoff1 _, hl, ht⟩, ?_, ?_⟩
    · refine (Keeps.trans (F := F) (KAB.out.mono (by simp)) k1 (fun g hg => .inl (by rw [hf]; simp [hg]))).setCell (.inl (by rw [hf]; simp)) _
    · intro g hg
      rcases List.mem_cons.1 hg with rfl | hg
      · exact .inl (by rw [hf]; simp)
      · rcases f1 g hg with h1 | h1
        · exact .inl (by rw [hf]; simp [h1])
        · refine .inr ?_
          simp at h1
          omega

/-- s[:k] of the cache's entries. -/
theorem own_cutTo {w : World} {g cap n k : Nat} {L : List En} (h : w.ownsRow 0 83 4 (.slice (some ⟨g, 0, none⟩) n cap) n (es L)) (hk : k ≤ n) : w.ownsRow 0 83 4 (.slice (some ⟨g, 0, none⟩) k cap) k (es (L.take k)) := by
  obtain ⟨cur, hb, hnc, hcm, hcs, hx⟩ := own_blk h
  refine own_of_blk hb (by omega) hcm hcs ?_
  rw [← es_take, ← hx, List.take_take, Nat.min_eq_left (by omega)]
theorem own_cutNil {w : World} {cap n : Nat} {L : List En} (h : w.ownsRow 0 83 4 (.slice none n cap) n (es L)) : n = 0 ∧ cap = 0 := by
  rcases h.2 with ⟨h1, h2⟩ | ⟨g, c, cur, h1, _⟩
  · injection h1 with _ _ h3; exact ⟨h2, h3⟩
  · injection h1 with h1; cases h1

set_option maxRecDepth 100000 in
set_option maxHeartbeats 3200000 in
theorem fill_any (w : World) (F : List Nat) (p : Nat) (s : Tl) (x : En) (hn : s.n ≤ 1000) (h : TlRep 95 w F p s) :
    Calls Tryz.prog 51 #[.pointer (some ⟨p, 0, none⟩), .int .i64 x.s, .int .i64 x.p, .int .i64 x.f, .bool x.w] w fun e w' => e = .returned (.tuple #[]) ∧ Next 95 w w' F p (s.fill x) := by
  have hd := drop_any w F p s x.s x.p hn h
  obtain ⟨t, ht⟩ : ∃ t, t = s.drop (fun e => e.is x.s x.p) := ⟨_, rfl⟩
  have hsf : s.fill x = if s.n = 0 then t else ⟨s.n, x :: t.L.take (s.n - 1)⟩ := by rw [ht]; rfl
  have htn : t.n = s.n := by rw [ht]; rfl
  rw [← ht] at hd
  have HD := Lib.hid hd
  by_cases h0 : s.n = 0
  · rw [if_pos h0] at hsf
    have HS := Lib.hid hsf
    clear hd hsf ht
    go_enter Tryz.func51, Tryz.ntmps51
    go_wp2_with fail
    refine HD.out.mono ?_
    rintro e w1 ⟨rfl, r1, k1⟩
    have hr := r1
    obtain ⟨A, cap, g1⟩ := r1
    have c0 : w1.cell? ⟨p, 0, none⟩ = some (.int .i64 t.n) := g1.b.cell 0
    rw [htn, h0] at c0
    clear g1
    go_wp2
    refine bodyPost_ret (v := .tuple #[]) (by simp [results, Tryz.results51, go_sem]) rfl ?_
    rw [HS.out]
    exact ⟨rfl, .same hr k1⟩
  · rw [if_neg h0] at hsf
    have HS := Lib.hid hsf
    clear hd hsf ht
    go_enter Tryz.func51, Tryz.ntmps51
    go_wp2_with fail
    refine HD.out.mono ?_
    rintro e w1 ⟨rfl, r1, k1⟩
    obtain ⟨A, cap, g1⟩ := r1
    have c0 : w1.cell? ⟨p, 0, none⟩ = some (.int .i64 t.n) := g1.b.cell 0
    have c1 : w1.cell? ⟨p, 1, none⟩ = some (.slice A t.L.length cap) := g1.b.cell 1
    have d0 : w1.drew.cell? ⟨p, 0, none⟩ = some (.int .i64 t.n) := c0
    have d1 : w1.drew.cell? ⟨p, 1, none⟩ = some (.slice A t.L.length cap) := c1
    have fz : w1.drew.frozen? ⟨p, 1, none⟩ = false := g1.b.frozen 1
    have hm := g1.m
    obtain ⟨k, hk⟩ : ∃ k : Nat, k = min t.L.length (t.n - 1) := ⟨_, rfl⟩
    have hz : t.n ≠ 0 := by omega
    have hmin : min (t.L.length : Int) ((t.n : Int) - 1) = k := by omega
    have hmin2 : min ((t.n : Int) - 1) (t.L.length : Int) = k := by omega
    have hk0 : (0 : Int) ≤ (k : Int) := by omega
    have hk1 : k ≤ t.L.length := by omega
    have hcap : t.L.length ≤ cap := by obtain ⟨_, _, hv, h1, _, _⟩ := own_shape g1.o; injection hv with _ _ h3; omega
    have hk2 : (k : Int) ≤ (cap : Int) := by omega
    have hwr : IntKind.i64.wrap ((t.n : Int) - 1) = (t.n : Int) - 1 := by rw [IntKind.wrap_i64]; omega
    have tz : ((t.n : Int) == 0) = false := by simp; omega
    have hcut : TlRep 95 (w1.setCell ⟨p, 1, none⟩ (.slice A k cap)).drew F p ⟨t.n, t.L.take k⟩ := by
      have hlk : (t.L.take k).length = k := by rw [List.length_take]; omega
      have hoff := g1.off
      have e1 : fp (.slice A (t.L.take k).length cap) = fp (.slice A t.L.length cap) := fp_any _ _ _ _ _
      have hb := g1.b.set_ 1 (.slice A k cap)
      have ho : w1.ownsRow 0 83 4 (.slice A k cap) k (es (t.L.take k)) := by
        cases A with
        | none =>
          obtain ⟨z1, z2⟩ := own_cutNil g1.o
          obtain rfl : k = 0 := by omega
          subst z2
          exact World.ownsRow_nil _ _ _ _
        | some a =>
          by_cases hl0 : 0 < t.L.length
          · obtain ⟨_, _, hv, -, -, hA⟩ := own_shape g1.o
            obtain ⟨g, hg⟩ := hA hl0
            injection hv with hv1
            rw [← hv1] at hg
            injection hg with hg
            subst hg
            exact own_cutTo g1.o hk1
          · obtain rfl : k = t.L.length := by omega
            rw [List.take_length]
            exact g1.o
      have ho2 : (w1.setCell ⟨p, 1, none⟩ (.slice A k cap)).ownsRow 0 83 4 (.slice A k cap) k (es (t.L.take k)) := own_far ho (by rw [fp_any A k cap t.L.length cap]; exact hoff) _
      exact ⟨A, cap, by rw [e1]; exact g1.f, by simp only [hlk]; exact hb, by simp only [hlk]; exact ho2, by simp only [hlk]; omega, g1.t⟩
    have k2 : Keeps F w (w1.setCell ⟨p, 1, none⟩ (.slice A k cap)).drew := (k1.setCell (.inl (by rw [g1.f]; simp)) _).drew
    have HT := Lib.hid (show s.fill x = ⟨t.n, x :: t.L.take k⟩ by
      rw [HS.out, htn]
      congr 2
      rw [List.take_eq_take_iff]
      omega)
    have hfi := first_any _ F p ⟨t.n, t.L.take k⟩ x (by show t.n ≤ 1000; omega) (by show (t.L.take k).length + 1 ≤ t.n; rw [List.length_take]; omega) hcut
    have HFI := Lib.hid hfi
    have HK := Lib.hid hk
    clear hfi hcut g1 k1 HS HD htn h0 h hk
    go_wp2_with fail
    go_region
    go_wp2_with fail
    refine HFI.out.mono ?_
    rintro e w4 ⟨rfl, F4, r4, k4, f4⟩
    go_wp2
    go_end0
    rw [HT.out]
    refine ⟨rfl, F4, r4, k2.trans k4 (fun g hg => .inl hg), fun g hg => ?_⟩
    rcases f4 g hg with h1 | h1
    · exact .inl h1
    · exact .inr (Nat.le_trans k2.size h1)
end Go.Proofs.YteognipfnbocpaaGreat.T13
namespace Go.Proofs.YteognipfnbocpaaGreat.T13
open Go.RowKit

theorem es_erase (L : List En) (i : Nat) : es (L.eraseIdx i) = (es L).take (i * 4) ++ (es L).drop ((i + 1) * 4) := by
  rw [es_take, es_drop, ← es_append, List.eraseIdx_eq_take_drop_succ]
set_option maxRecDepth 100000 in
set_option maxHeartbeats 3200000 in
theorem look_any (w : World) (F : List Nat) (p : Nat) (s : Tl) (x y : Int) (b : Bool) (hn : s.n ≤ 1000) (h : TlRep 95 w F p s) :
    Calls Tryz.prog 49 #[.pointer (some ⟨p, 0, none⟩), .int .i64 x, .int .i64 y, .bool b] w fun e w' => e = .returned (.tuple #[.int .i64 (s.lookR x y b).1, .bool (s.lookR x y b).2]) ∧ Next 95 w w' F p (s.look x y b) := by
  have hrep := h
  obtain ⟨A, cap, h⟩ := h
  have hm := h.m
  have hpl := h.b.lt
  have c1 : w.cell? ⟨p, 1, none⟩ = some (.slice A s.L.length cap) := h.b.cell 1
  have kd : Keeps [] w w.drew := (Keeps.refl [] w).drew
  have HC : Hid (∀ W, Keeps [] w W → W.cell? ⟨p, 1, none⟩ = some (.slice A s.L.length cap)) := Lib.hid (fun W hk => (h.b.keep hk (by simp)).cell 1)
  obtain ⟨wa, hwa⟩ : ∃ W, W = (w.drew.alloc (.cells #[.int .i64 x] 3)).alloc (.cells #[.int .i64 y] 3) := ⟨_, rfl⟩
  have ka : Keeps [] w wa := by rw [hwa]; exact (kd.alloc _).alloc _
  obtain ⟨n1, n2⟩ := keepB hrep
  have pr : PB [] 89 #[.pointer (some ⟨w.heap.size, 0, none⟩), .pointer (some ⟨w.heap.size + 1, 0, none⟩)] (fun e => e.is x y) wa := by
    rw [hwa]
    exact at_pred [] _ w.heap.size (w.heap.size + 1) x y ((Blk.new w.drew 3 #[.int .i64 x]).alloc _) (by have := Blk.new (w.drew.alloc (.cells #[.int .i64 x] 3)) 3 #[.int .i64 y]; simpa using this) (by simp) (by simp)
  have hix := indexFunc_any wa A cap s.L 89 _ (fun e => e.is x y) enters89 (by omega) (own_keep h.o ka (by simp)) pr
  have HI := Lib.hid hix
  clear hix pr
  have hat := at_any w.drew x y
  rw [← hwa, show w.drew.heap.size = w.heap.size from rfl] at hat
  have HAT := Lib.hid hat
  clear hat
  have q0 := HC.out _ kd
  have q1 := HC.out _ ka
  have HR := Lib.hid hrep
  have HH := Lib.hid h
  have KA := Lib.hid ka
  cases hf : s.L.findIdx? (fun e => e.is x y) with
  | none =>
    have e1 : s.look x y b = s := by unfold Tl.look Tl.hit; rw [hf]
    have e2 : s.lookR x y b = (0, false) := by unfold Tl.lookR Tl.hit; rw [hf]
    have HE := Lib.hid (And.intro e1 e2)
    rw [fidx_none hf] at HI
    clear hf e1 e2 hrep h hwa ka
    go_enter Tryz.func49, Tryz.ntmps49
    go_wp2_with fail
    go_region_held3 (fun w' => w'.cell? ⟨p, 1, none⟩ = some (.slice A s.L.length cap))
      (first
        | rw [q2]
        | rw [q1]
        | rw [q0])
      ((first
        | (go_at_call 77; refine HAT.out.mono ?_; rintro e w1 ⟨rfl, rfl⟩)
        | (go_at_call 78; refine HI.out.mono ?_; rintro e w2 ⟨rfl, k2⟩; have K2 := KA.out.trans k2 (by simp); have q2 := HC.out _ K2)))
    go_wp2
    go_ret2
    obtain ⟨e1, e2⟩ := HE.out
    rw [e1, e2]
    exact ⟨rfl, .same (HR.out.keep K2 (by simp)) (K2.mono (by simp))⟩
  | some i =>
    have hil : i < s.L.length := by rw [List.findIdx?_eq_some_iff_getElem] at hf; exact hf.1
    have hgd : s.L.getD i en0 = s.L[i] := by simp [List.getD, hil]
    rw [fidx_some hf] at HI
    obtain ⟨_, _, hv, hcap, hmax, hA⟩ := own_shape h.o
    obtain ⟨rfl, -, rfl⟩ : A = _ ∧ s.L.length = _ ∧ cap = _ := by injection hv with h1 h2 h3; exact ⟨h1, rfl, h3⟩
    clear hv
    obtain ⟨g, rfl⟩ := hA (by omega)
    have HS : Hid (∀ W, Keeps [] w W → W.cell? ⟨g, i * 4, none⟩ = some (.int .i64 s.L[i].s) ∧ W.cell? ⟨g, i * 4 + 1, none⟩ = some (.int .i64 s.L[i].p) ∧ W.cell? ⟨g, i * 4 + 2, none⟩ = some (.int .i64 s.L[i].f) ∧ W.cell? ⟨g, i * 4 + 3, none⟩ = some (.bool s.L[i].w)) :=
      Lib.hid (fun W hk => by
        have o := own_keep h.o hk (by simp)
        exact ⟨own_cell o (by rw [show i * 4 = i * 4 + 0 by omega, es_at hil (by omega)]; rfl), own_cell o (by rw [es_at hil (by omega)]; rfl), own_cell o (by rw [es_at hil (by omega)]; rfl), own_cell o (by rw [es_at hil (by omega)]; rfl)⟩)
    cases hb : (b && !s.L[i].w) with
    | true =>
      have e1 : s.look x y b = s := by unfold Tl.look Tl.hit; rw [hf]; simp only [hgd, hb, if_true]
      have e2 : s.lookR x y b = (0, false) := by unfold Tl.lookR Tl.hit; rw [hf]; simp only [hgd, hb, if_true]
      have HE := Lib.hid (And.intro e1 e2)
      simp only [Bool.and_eq_true, Bool.not_eq_true'] at hb
      obtain ⟨rfl, hw⟩ := hb
      clear hf e1 e2 hrep h hwa ka hA hgd hcap hmax
      go_enter Tryz.func49, Tryz.ntmps49
      go_wp2_with fail
      go_region_held3 (fun w' => w'.cell? ⟨p, 1, none⟩ = some (.slice (some ⟨g, 0, none⟩) s.L.length cap))
        (first
          | rw [q2]
          | rw [q1]
          | rw [q0])
        ((first
          | (go_at_call 77; refine HAT.out.mono ?_; rintro e w1 ⟨rfl, rfl⟩)
          | (go_at_call 78; refine HI.out.mono ?_; rintro e w2 ⟨rfl, k2⟩; have K2 := KA.out.trans k2 (by simp); have q2 := HC.out _ K2)))
      obtain ⟨m0, m1, m2, m3⟩ := HS.out _ K2
      rw [hw] at m3
      go_wp2
      go_ret2
      obtain ⟨e1, e2⟩ := HE.out
      rw [e1, e2]
      exact ⟨rfl, .same (HR.out.keep K2 (by simp)) (K2.mono (by simp))⟩
    | false =>
      have e1 : s.look x y b = ⟨s.n, s.L[i] :: s.L.eraseIdx i⟩ := by unfold Tl.look Tl.hit; rw [hf]; simp only [hgd, hb, Bool.false_eq_true, if_false]
      have e2 : s.lookR x y b = (s.L[i].f, true) := by unfold Tl.lookR Tl.hit; rw [hf]; simp only [hgd, hb, Bool.false_eq_true, if_false]
      have HE := Lib.hid (And.intro e1 e2)
      have hwr : IntKind.i64.wrap ((i : Int) + 1) = i + 1 := by rw [IntKind.wrap_i64]; omega
      have hi0 : (0 : Int) ≤ i := by omega
      have hi1 : (i : Int) < s.L.length := by omega
      clear hf e1 e2 hrep h hwa ka hA hgd hcap hmax
      go_enter Tryz.func49, Tryz.ntmps49
      go_wp2_with fail
      go_region_held3 (fun w' => w'.cell? ⟨p, 1, none⟩ = some (.slice (some ⟨g, 0, none⟩) s.L.length cap))
        (first
          | rw [q2]
          | rw [q1]
          | rw [q0])
        ((first
          | (go_at_call 77; refine HAT.out.mono ?_; rintro e w1 ⟨rfl, rfl⟩)
          | (go_at_call 78; refine HI.out.mono ?_; rintro e w2 ⟨rfl, k2⟩; have K2 := KA.out.trans k2 (by simp); have q2 := HC.out _ K2)))
      obtain ⟨m0, m1, m2, m3⟩ := HS.out _ K2
      have hil2 : (s.L.eraseIdx i).length = s.L.length - 1 := List.length_eraseIdx_of_lt hil
      have G2 := HH.out.o
      have hpg : p ≠ g := by have := HH.out.off; simpa using this
      have hf := HH.out.f
      have ht := HH.out.t
      have hB := HH.out.b
      have hs2 : w.heap.size ≤ w2.heap.size := K2.size
      have hgl : g < w.heap.size := own_lt G2 (by simp)
      have hpl2 : p < w2.heap.size := by omega
      have hgl2 : g < w2.heap.size := by omega
      cases b with
      | false =>
        go_wp2_with fail
        refine (delete_any _ g s.L.length cap i _ (own_keep G2 (K2.alloc _) (by simp)) (es_one _) hil (by omega)).mono ?_
        rintro e w3 ⟨rfl, o3, k3⟩
        rw [← es_erase] at o3
        have bx := (Blk.new w2 83 #[.int .i64 s.L[i].s, .int .i64 s.L[i].p, .int .i64 s.L[i].f, .bool s.L[i].w]).keep k3 (by simp; omega)
        have y0 : w3.cell? ⟨w2.heap.size, 0, none⟩ = some (.int .i64 s.L[i].s) := bx.cell 0
        have y1 : w3.cell? ⟨w2.heap.size, 1, none⟩ = some (.int .i64 s.L[i].p) := bx.cell 1
        have y2 : w3.cell? ⟨w2.heap.size, 2, none⟩ = some (.int .i64 s.L[i].f) := bx.cell 2
        have y3 : w3.cell? ⟨w2.heap.size, 3, none⟩ = some (.bool s.L[i].w) := bx.cell 3
        have b3 := (hB.keep (K2.alloc (.cells #[.int .i64 s.L[i].s, .int .i64 s.L[i].p, .int .i64 s.L[i].f, .bool s.L[i].w] 83)) (by simp)).keep k3 (by simp; exact hpg)
        have d1 : w3.cell? ⟨p, 1, none⟩ = some (.slice (some ⟨g, 0, none⟩) s.L.length cap) := b3.cell 1
        have fz : w3.frozen? ⟨p, 1, none⟩ = false := b3.frozen 1
        have hcut : TlRep 95 (w3.setCell ⟨p, 1, none⟩ (.slice (some ⟨g, 0, none⟩) (s.L.length - 1) cap)) F p ⟨s.n, s.L.eraseIdx i⟩ :=
          ⟨some ⟨g, 0, none⟩, cap, hf, by simp only [hil2]; exact b3.set_ 1 _, by simp only [hil2]; exact own_far o3 (by simpa using hpg) _, by simp only [hil2]; omega, ht⟩
        have K3 : Keeps F w (w3.setCell ⟨p, 1, none⟩ (.slice (some ⟨g, 0, none⟩) (s.L.length - 1) cap)) :=
          (Keeps.trans (F := F) ((K2.alloc _).mono (by simp)) k3 (by rw [hf]; simp)).setCell (.inl (by rw [hf]; simp)) _
        have bx4 := bx.far (p := ⟨p, 1, none⟩) (by simp; omega) (.slice (some ⟨g, 0, none⟩) (s.L.length - 1) cap)
        have nF : w2.heap.size ∉ F := fun hx => by have := HR.out.lt _ hx; omega
        have hl3 : w2.heap.size < w3.heap.size := bx.lt
        have hpl3 : p < w3.heap.size := b3.lt
        have hfi := first_any _ F p ⟨s.n, s.L.eraseIdx i⟩ s.L[i] hn (by simp only [hil2]; omega) hcut
        have HFI := Lib.hid hfi
        clear hfi hcut o3 b3 bx k3 m0 m1 m2 m3
        go_wp2_with fail
        refine HFI.out.mono ?_
        rintro e w5 ⟨rfl, F5, r5, k5, f5⟩
        have bx5 := bx4.keep k5 nF
        have z2 : w5.cell? ⟨w2.heap.size, 2, none⟩ = some (.int .i64 s.L[i].f) := bx5.cell 2
        go_wp2
        go_ret2
        obtain ⟨e1, e2⟩ := HE.out
        rw [e1, e2]
        refine ⟨rfl, F5, r5, K3.trans k5 (fun g hg => .inl hg), fun g hg => ?_⟩
        rcases f5 g hg with h1 | h1
        · exact .inl h1
        · exact .inr (Nat.le_trans K3.size h1)
      | true =>
        have hw : s.L[i].w = true := by simpa using hb
        rw [hw] at m3
        go_wp2_with fail
        refine (delete_any _ g s.L.length cap i _ (own_keep G2 (K2.alloc _) (by simp)) (es_one _) hil (by omega)).mono ?_
        rintro e w3 ⟨rfl, o3, k3⟩
        rw [← es_erase] at o3
        have bx := (Blk.new w2 83 #[.int .i64 s.L[i].s, .int .i64 s.L[i].p, .int .i64 s.L[i].f, .bool true]).keep k3 (by simp; omega)
        have y0 : w3.cell? ⟨w2.heap.size, 0, none⟩ = some (.int .i64 s.L[i].s) := bx.cell 0
        have y1 : w3.cell? ⟨w2.heap.size, 1, none⟩ = some (.int .i64 s.L[i].p) := bx.cell 1
        have y2 : w3.cell? ⟨w2.heap.size, 2, none⟩ = some (.int .i64 s.L[i].f) := bx.cell 2
        have y3 : w3.cell? ⟨w2.heap.size, 3, none⟩ = some (.bool true) := bx.cell 3
        have b3 := (hB.keep (K2.alloc (.cells #[.int .i64 s.L[i].s, .int .i64 s.L[i].p, .int .i64 s.L[i].f, .bool true] 83)) (by simp)).keep k3 (by simp; exact hpg)
        have d1 : w3.cell? ⟨p, 1, none⟩ = some (.slice (some ⟨g, 0, none⟩) s.L.length cap) := b3.cell 1
        have fz : w3.frozen? ⟨p, 1, none⟩ = false := b3.frozen 1
        have hcut : TlRep 95 (w3.setCell ⟨p, 1, none⟩ (.slice (some ⟨g, 0, none⟩) (s.L.length - 1) cap)) F p ⟨s.n, s.L.eraseIdx i⟩ :=
          ⟨some ⟨g, 0, none⟩, cap, hf, by simp only [hil2]; exact b3.set_ 1 _, by simp only [hil2]; exact own_far o3 (by simpa using hpg) _, by simp only [hil2]; omega, ht⟩
        have K3 : Keeps F w (w3.setCell ⟨p, 1, none⟩ (.slice (some ⟨g, 0, none⟩) (s.L.length - 1) cap)) :=
          (Keeps.trans (F := F) ((K2.alloc _).mono (by simp)) k3 (by rw [hf]; simp)).setCell (.inl (by rw [hf]; simp)) _
        have bx4 := bx.far (p := ⟨p, 1, none⟩) (by simp; omega) (.slice (some ⟨g, 0, none⟩) (s.L.length - 1) cap)
        have nF : w2.heap.size ∉ F := fun hx => by have := HR.out.lt _ hx; omega
        have hl3 : w2.heap.size < w3.heap.size := bx.lt
        have hpl3 : p < w3.heap.size := b3.lt
        have hfi := first_any _ F p ⟨s.n, s.L.eraseIdx i⟩ s.L[i] hn (by simp only [hil2]; omega) hcut
        rw [hw] at hfi
        have HFI := Lib.hid hfi
        clear hfi hcut o3 b3 bx k3 m0 m1 m2 m3
        go_wp2_with fail
        refine HFI.out.mono ?_
        rintro e w5 ⟨rfl, F5, r5, k5, f5⟩
        have bx5 := bx4.keep k5 nF
        have z2 : w5.cell? ⟨w2.heap.size, 2, none⟩ = some (.int .i64 s.L[i].f) := bx5.cell 2
        go_wp2
        go_ret2
        obtain ⟨e1, e2⟩ := HE.out
        rw [e1, e2]
        refine ⟨rfl, F5, r5, K3.trans k5 (fun g hg => .inl hg), fun g hg => ?_⟩
        rcases f5 g hg with h1 | h1
        · exact .inl h1
        · exact .inr (Nat.le_trans K3.size h1)
end Go.Proofs.YteognipfnbocpaaGreat.T13
