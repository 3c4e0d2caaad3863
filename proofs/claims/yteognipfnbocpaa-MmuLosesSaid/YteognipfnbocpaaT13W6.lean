/- slices.Insert at the front: the walks. -/
import Derived.Test.YteognipfnbocpaaT13W5
namespace Go.Proofs.Yteognipfnbocpaa.T13
open Go.RowKit

/-- What Insert leaves. -/
def Ins (w : World) (A : Option Addr) (cap : Nat) (L : List En) (x : En) (e : Ending) (w' : World) : Prop :=
  ∃ v, e = .returned v ∧ w'.ownsRow 0 41 4 v (L.length + 1) (es (x :: L)) ∧ Keeps (fp (.slice A L.length cap)) w w' ∧ ∀ g ∈ fp v, g ∈ fp (.slice A L.length cap) ∨ w.heap.size ≤ g
theorem es_cons (x : En) (L : List En) : es (x :: L) = ec x ++ es L := rw_cons x L
theorem own_e34 (w : World) : (w.alloc (.cells #[] 41)).ownsRow 0 41 4 (.slice (some ⟨w.heap.size, 0, none⟩) 0 0) 0 [] := own_of_blk (Blk.new w 41 #[]) (by omega) (by omega) rfl rfl
theorem reads_en {w : World} {vb : Nat} {x : En} (h : Blk w vb 41 (ec x).toArray) : Reads w w.heap.size 4 (some ⟨vb, 0, none⟩) 1 (ec x) :=
  ⟨rfl, fun _ => ⟨_, rfl, h.lt, fun j u hu => by rw [Addr.add_lit, Nat.zero_add, h.cell]; simpa using hu⟩⟩

set_option maxRecDepth 100000 in
set_option maxHeartbeats 1600000 in
theorem insert_none (w : World) (A : Option Addr) (cap vb : Nat) (x : En) (ho : w.ownsRow 0 41 4 (.slice A 0 cap) 0 (es [])) (hv : Blk w vb 41 (ec x).toArray) :
    Calls Try.prog 65 #[.slice A 0 cap, .int .i64 0, .slice (some ⟨vb, 0, none⟩) 1 1] w fun e w' => Ins w A cap [] x e w' := by
  obtain ⟨_, _, hvv, hcap, hmax, hA⟩ := own_shape ho
  obtain ⟨rfl, -, rfl⟩ : A = _ ∧ 0 = _ ∧ cap = _ := by injection hvv with h1 h2 h3; exact ⟨h1, h2, h3⟩
  unfold maxLen at hmax
  have fin : ∀ (v' : Value) (w' : World), w'.ownsRow 0 41 4 v' (0 + 1) (es [] ++ ec x) → Keeps (fp (.slice A 0 cap)) w w' → (∀ g ∈ fp v', g ∈ fp (.slice A 0 cap) ∨ w.heap.size ≤ g) → Ins w A cap [] x (.returned v') w' :=
    fun v' w' o k f => ⟨v', rfl, o, k, f⟩
  have HF := Lib.hid fin
  have HO := Lib.hid ho
  clear fin hvv hA
  go_enter Try.func65, Try.ntmps65
  rcases A with _ | a
  · go_wp2_with (at_builtin; refine wpList_app _ rfl (.tmp 23) (.tmp 24) _ rfl 41 (.agg #[.int .i64 0, .int .i64 0, .int .i64 0, .bool false]) 4 32 Try.underlying38 info41 rfl (by omega) (.slice none 0 cap) 0 _ rfl HO.out _ _ _ _ _ rfl (reads_en hv) (ec_one x) (by unfold maxLen; omega) (by omega) ?_)
    all_goals
      intro v' w' ho' hk' hf'
      go_wp2
      go_ret
      exact HF.out _ _ ho' hk' (fun y hy => by have := hf' y hy; simpa using this)
  · obtain ⟨ab, ao, asp⟩ := a
    go_wp2_with (at_builtin; refine wpList_app _ rfl (.tmp 23) (.tmp 24) _ rfl 41 (.agg #[.int .i64 0, .int .i64 0, .int .i64 0, .bool false]) 4 32 Try.underlying38 info41 rfl (by omega) (.slice (some ⟨ab, ao, asp⟩) 0 cap) 0 _ rfl HO.out _ _ _ _ _ rfl (reads_en hv) (ec_one x) (by unfold maxLen; omega) (by omega) ?_)
    all_goals
      intro v' w' ho' hk' hf'
      go_wp2
      go_ret
      exact HF.out _ _ ho' hk' (fun y hy => by have := hf' y hy; simpa using this)

set_option maxRecDepth 100000 in
set_option maxHeartbeats 3200000 in
theorem insert_shift (w : World) (g cap vb : Nat) (L : List En) (x : En) (hn : 0 < L.length) (hn2 : L.length ≤ 1000000) (hroom : L.length + 1 ≤ cap) (hne : vb ≠ g)
    (ho : w.ownsRow 0 41 4 (.slice (some ⟨g, 0, none⟩) L.length cap) L.length (es L)) (hv : Blk w vb 41 (ec x).toArray) :
    Calls Try.prog 65 #[.slice (some ⟨g, 0, none⟩) L.length cap, .int .i64 0, .slice (some ⟨vb, 0, none⟩) 1 1] w fun e w' => Ins w (some ⟨g, 0, none⟩) cap L x e w' := by
  obtain ⟨cur, hb, hnc, hcm, hcs, hx⟩ := own_blk ho
  unfold maxLen at hcm
  have hle := es_len L
  have hov : ∀ lb cb, (callFunc 77 #[.slice (some ⟨vb, 0, none⟩) 1 1, .slice (some ⟨g, 4, none⟩) lb cb]).run Try.prog w = .ok (.value (.bool false)) w := fun lb cb => by
    rw [run_callFunc_extern Try.func77 (by kernel_rfl) (by kernel_rfl) (by kernel_rfl) (e := Extern.SlicesOverlaps.overlaps #[38, 38] #[4]) (by kernel_rfl),
      Lib.run_overlaps_apart w 38 4 41 Try.underlying38 4 (fun w => by kernel_rfl) ⟨vb, 0, none⟩ ⟨g, 4, none⟩ 1 1 lb cb hne 41 41 4 cur.size (blk_shape hv) (blk_shape hb) (by omega) (hv.frozen 0) (hv.frozen 4)]
    rfl
  obtain ⟨n, hnl⟩ : ∃ n, n = L.length := ⟨_, rfl⟩
  rw [← hnl] at hn hn2 hroom ho hnc hx hle ⊢
  have hcp1 : ∀ ty dc sc, (Builtin.copy_ #[38, 38] ty #[.slice (some ⟨g, 4, none⟩) n dc, .slice (some ⟨g, 0, none⟩) (n + 1) sc]).run Try.prog w.drew = .ok (goInt n) (w.drew.setCells g 4 (es L)) := fun ty dc sc => by
    have h := run_copy_en w.drew ty g 4 n dc ⟨g, 0, none⟩ (n + 1) sc (es L) n (by omega) hle
      (fun j v hj => by rw [Addr.add_lit, Nat.zero_add]; exact own_cell (own_drew ho) hj)
      (fun j hj => by rw [hb.drew.cell, Array.getElem?_eq_getElem (by rw [hcs]; rw [hle] at hj; omega)]; rfl) (fun j _ => hb.drew.frozen _) (es_one L)
    exact h
  have b1 := hb.drew.setCells (es L) 4 (by rw [hle, hcs]; omega)
  have v1 : Blk (w.drew.setCells g 4 (es L)) vb 41 (ec x).toArray := hv.drew.keep ((Keeps.refl [g] w.drew).setCells _ _ (.inl (by simp))) (by simpa using hne)
  obtain ⟨W1, hW1⟩ : ∃ W1, W1 = w.drew.setCells g 4 (es L) := ⟨_, rfl⟩
  have k1 : Keeps [g] w W1 := by rw [hW1]; exact ((Keeps.refl [g] w).drew).setCells _ _ (.inl (by simp))
  rw [← hW1] at hcp1 b1 v1
  have hl1 : (splice cur.toList 4 (es L)).length = cap * 4 := by rw [splice_len (by rw [hle, Array.length_toList, hcs]; omega), Array.length_toList, hcs]
  have hcp2 : ∀ ty dc, (Builtin.copy_ #[38, 38] ty #[.slice (some ⟨g, 0, none⟩) (n + 1) dc, .slice (some ⟨vb, 0, none⟩) 1 1]).run Try.prog W1 = .ok (goInt 1) (W1.setCells g 0 (ec x)) := fun ty dc => by
    have h := run_copy_en W1 ty g 0 (n + 1) dc ⟨vb, 0, none⟩ 1 1 (ec x) 1 (by omega) rfl
      (fun j v hj => by rw [Addr.add_lit, Nat.zero_add, v1.cell]; simpa using hj)
      (fun j hj => by rw [b1.cell, List.getElem?_toArray, List.getElem?_eq_getElem (by rw [hl1]; rw [ec_len] at hj; omega)]; rfl) (fun j _ => b1.frozen _) (ec_one x)
    exact h
  have b2 := b1.setCells (ec x) 0 (by rw [List.size_toArray, hl1, ec_len]; omega)
  have o2 : (W1.setCells g 0 (ec x)).ownsRow 0 41 4 (.slice (some ⟨g, 0, none⟩) (n + 1) cap) (n + 1) (es (x :: L)) := by
    refine own_of_blk b2 hroom (by unfold maxLen; omega) ?_ ?_
    · rw [List.size_toArray, splice_len (by rw [List.toList_toArray, hl1, ec_len]; omega), List.toList_toArray, hl1]
    · rw [List.toList_toArray, List.toList_toArray, splice2 _ _ _ n (by rw [Array.length_toList, hcs]; omega) hle (ec_len x), es_cons]
  have fin : Ins w (some ⟨g, 0, none⟩) cap L x (.returned (.slice (some ⟨g, 0, none⟩) (n + 1) cap)) (W1.setCells g 0 (ec x)) :=
    ⟨_, rfl, by rw [← hnl]; exact o2, k1.setCells _ _ (.inl (by simp)), fun y hy => .inl (by simpa using hy)⟩
  have HF := Lib.hid fin
  have z1 : ¬ ((0 : Int) = (n : Int)) := by omega
  have z2 : n ≠ 0 := by omega
  have hb2 : cap ≠ 1 := by omega
  have hb4 : cap ≠ 0 := by omega
  have hw1 : IntKind.i64.wrap 1 = 1 := by rfl
  have hp0 : (1 : Int) ≤ (n : Int) + 1 := by omega
  have hp1 : (0 : Int) ≤ (n : Int) + 1 := by omega
  clear fin o2 b2 b1 v1 hb hx hl1 hcs hle ho hv hnl hW1
  go_enter Try.func65, Try.ntmps65
  go_wp2_with (simp only [hov])
  go_region_law (refine step_copy_run rfl _ _ 38 38 rfl _ _ (by simp [Act.eval, Act.put]) (by simp [Act.eval, Act.put]) (hcp1 _ _ _) ?_)
  go_wp2_with (at_builtin; refine wpList_copy_run _ rfl _ _ 38 38 rfl _ _ rfl rfl (hcp2 _ _) ?_)
  go_ret
  exact HF.out

set_option maxRecDepth 100000 in
set_option maxHeartbeats 3200000 in
theorem insert_grow (w : World) (g vb : Nat) (L : List En) (x : En) (hn : 0 < L.length) (hn2 : L.length ≤ 1000000)
    (ho : w.ownsRow 0 41 4 (.slice (some ⟨g, 0, none⟩) L.length L.length) L.length (es L)) (hv : Blk w vb 41 (ec x).toArray) :
    Calls Try.prog 65 #[.slice (some ⟨g, 0, none⟩) L.length L.length, .int .i64 0, .slice (some ⟨vb, 0, none⟩) 1 1] w fun e w' => Ins w (some ⟨g, 0, none⟩) L.length L x e w' := by
  obtain ⟨cur, hb, hnc, hcm, hcs, hx⟩ := own_blk ho
  have hle := es_len L
  obtain ⟨i0, hi0, hz0, hzs, hzb⟩ := info_parts info41
  obtain ⟨n, hnl⟩ : ∃ n, n = L.length := ⟨_, rfl⟩
  rw [← hnl] at hn hn2 ho hcs hx hle ⊢
  have hgl := hb.lt
  have hvl := hv.lt
  have hold : (Builtin.firstCells i0.size 0 (.slice (some ⟨g, 0, none⟩) 0 n)).run Try.prog w.drew = .ok (#[] : Array Value) w.drew := by
    rw [hzs]
    exact run_firstCells_some w.drew 4 0 ⟨g, 0, none⟩ 0 n [] (by simp) (fun j v hj => by simp at hj)
  have hrz : ∀ ty, (Builtin.append_ #[38, 3] ty #[.slice (some ⟨g, 0, none⟩) 0 n, .int .i64 ((n : Int) + 1)]).run Try.prog w =
      .ok (.slice (some ⟨w.heap.size, 0, none⟩) (n + 1) (grownCap w (n + 1) n 41)) (w.drew.alloc (.cells (#[] ++ Builtin.zeroCells #[.int .i64 0, .int .i64 0, .int .i64 0, .bool false] (n + 1) ++ Builtin.zeroCells #[.int .i64 0, .int .i64 0, .int .i64 0, .bool false] (grownCap w (n + 1) n 41 - (n + 1))) 41)) := fun ty => by
    have h := Lib.run_append_grow_zeros w 38 3 ty 41 i0 _ .i64 .i64 Try.underlying38 Try.underlying3 hi0 hz0 (some ⟨g, 0, none⟩) 0 n [] hold (n + 1) (by omega) (by omega) (by omega) (by omega) (by rw [hzb]; omega) (by rw [hzb, Nat.zero_add]; exact growslice_fits (by omega) (by omega))
    rw [Nat.zero_add] at h
    exact h
  have hGn : n + 1 ≤ grownCap w (n + 1) n 41 := grownCap_ge w _ _ _
  have hG63 := grownCap_le_maxLen w (n + 1) n 41 (by unfold maxLen; omega)
  obtain ⟨G, hG⟩ : ∃ G, G = grownCap w (n + 1) n 41 := ⟨_, rfl⟩
  rw [← hG] at hrz hGn hG63
  obtain ⟨ROW, hROW⟩ : ∃ ROW : Array Value, ROW = #[] ++ Builtin.zeroCells #[.int .i64 0, .int .i64 0, .int .i64 0, .bool false] (n + 1) ++ Builtin.zeroCells #[.int .i64 0, .int .i64 0, .int .i64 0, .bool false] (G - (n + 1)) := ⟨_, rfl⟩
  rw [← hROW] at hrz
  have hRl : ROW.size = G * 4 := by
    rw [hROW]
    simp [Builtin.zeroCells]
    omega
  unfold maxLen at hG63
  obtain ⟨W1, hW1⟩ : ∃ W1, W1 = w.drew.alloc (.cells ROW 41) := ⟨_, rfl⟩
  have b1 : Blk W1 w.heap.size 41 ROW := by rw [hW1]; exact Blk.new w.drew 41 ROW
  have k1 : Keeps [] w W1 := by rw [hW1]; exact ((Keeps.refl [] w).drew).alloc _
  have v1 := hv.keep k1 (by simp)
  have s1 := own_keep ho k1 (by simp)
  have hcpA : ∀ ty dc, (Builtin.copy_ #[38, 38] ty #[.slice (some ⟨w.heap.size, 0, none⟩) (n + 1) dc, .slice (some ⟨vb, 0, none⟩) 1 1]).run Try.prog W1 = .ok (goInt 1) (W1.setCells w.heap.size 0 (ec x)) := fun ty dc =>
    run_copy_en W1 ty w.heap.size 0 (n + 1) dc ⟨vb, 0, none⟩ 1 1 (ec x) 1 (by omega) rfl
      (fun j v hj => by rw [Addr.add_lit, Nat.zero_add, v1.cell]; simpa using hj)
      (fun j hj => by rw [b1.cell, Array.getElem?_eq_getElem (by rw [hRl]; rw [ec_len] at hj; omega)]; rfl) (fun j _ => b1.frozen _) (ec_one x)
  have b2 := b1.setCells (ec x) 0 (by rw [hRl, ec_len]; omega)
  have k2 : Keeps [] w (W1.setCells w.heap.size 0 (ec x)) := k1.setCells _ _ (.inr (Nat.le_refl _))
  obtain ⟨W2, hW2⟩ : ∃ W2, W2 = W1.setCells w.heap.size 0 (ec x) := ⟨_, rfl⟩
  rw [← hW2] at hcpA b2 k2
  have s2 := own_keep ho (k2.drew) (by simp)
  have hl2 : (splice ROW.toList 0 (ec x)).length = G * 4 := by rw [splice_len (by rw [ec_len, Array.length_toList, hRl]; omega), Array.length_toList, hRl]
  have hcpB : ∀ ty dc sc, (Builtin.copy_ #[38, 38] ty #[.slice (some ⟨w.heap.size, 4, none⟩) n dc, .slice (some ⟨g, 0, none⟩) n sc]).run Try.prog W2.drew = .ok (goInt n) (W2.drew.setCells w.heap.size 4 (es L)) := fun ty dc sc =>
    run_copy_en W2.drew ty w.heap.size 4 n dc ⟨g, 0, none⟩ n sc (es L) n (by omega) hle
      (fun j v hj => by rw [Addr.add_lit, Nat.zero_add]; exact own_cell s2 hj)
      (fun j hj => by rw [b2.drew.cell, List.getElem?_toArray, List.getElem?_eq_getElem (by rw [hl2]; rw [hle] at hj; omega)]; rfl) (fun j _ => b2.drew.frozen _) (es_one L)
  have b3 := b2.drew.setCells (es L) 4 (by rw [List.size_toArray, hl2, hle]; omega)
  have o3 : (W2.drew.setCells w.heap.size 4 (es L)).ownsRow 0 41 4 (.slice (some ⟨w.heap.size, 0, none⟩) (n + 1) G) (n + 1) (es (x :: L)) := by
    refine own_of_blk b3 hGn (by unfold maxLen; omega) ?_ ?_
    · rw [List.size_toArray, splice_len (by rw [List.toList_toArray, hl2, hle]; omega), List.toList_toArray, hl2]
    · rw [List.toList_toArray, List.toList_toArray, splice3 _ _ _ n hle (ec_len x), es_cons]
  have fin : Ins w (some ⟨g, 0, none⟩) n L x (.returned (.slice (some ⟨w.heap.size, 0, none⟩) (n + 1) G)) (W2.drew.setCells w.heap.size 4 (es L)) :=
    ⟨_, rfl, by rw [← hnl]; exact o3, (k2.drew.mono (by simp)).setCells _ _ (.inr (Nat.le_refl _)), fun y hy => .inr (by simp at hy; omega)⟩
  have HF := Lib.hid fin
  have z1 : ¬ ((0 : Int) = (n : Int)) := by omega
  have z2 : n ≠ 0 := by omega
  have z3 : (n : Int) < (n : Int) + 1 := by omega
  have hw1 : IntKind.i64.wrap 1 = 1 := by rfl
  have hp0 : (1 : Int) ≤ (n : Int) + 1 := by omega
  have hp1 : (0 : Int) ≤ (n : Int) + 1 := by omega
  have hG1 : G ≠ 1 := by omega
  have hG0 : G ≠ 0 := by omega
  rw [hW1] at hcpA
  have hcpA : ∀ ty dc, (Builtin.copy_ #[38, 38] ty #[.slice (some ⟨w.heap.size, 0, none⟩) (n + 1) dc, .slice (some ⟨vb, 0, none⟩) 1 1]).run Try.prog (w.alloc (.cells ROW 41)).drew = .ok (goInt 1) W2 := hcpA
  clear fin o3 b3 b2 b1 v1 s1 s2 k1 k2 hb hx hcs hle ho hv hnl hW1 hW2 hl2 hold hROW hRl hG hi0 hz0 hzs hzb
  go_enter Try.func65, Try.ntmps65
  go_wp2_with (first
    | (at_builtin; refine Lib.wpList_append_run _ rfl _ _ _ _ rfl _ _ rfl rfl _ _ (hrz _) ?_)
    | (at_builtin; refine wpList_copy_run _ rfl _ _ 38 38 rfl _ _ rfl rfl (hcpA _ _) ?_))
  go_region_law (refine step_copy_run rfl _ _ 38 38 rfl _ _ (by simp [Act.eval, Act.put]) (by simp [Act.eval, Act.put]) (hcpB _ _ _) ?_)
  go_wp2
  go_ret
  exact HF.out
end Go.Proofs.Yteognipfnbocpaa.T13
