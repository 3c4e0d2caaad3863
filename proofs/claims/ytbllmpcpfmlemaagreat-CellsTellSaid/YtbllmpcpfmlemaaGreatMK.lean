/- Texts of the elder seat, turned to this one: W18 W19 W20. -/
import Derived.Test.YtbllmpcpfmlemaaGreatMJ
namespace Go.Proofs.YtbllmpcpfmlemaaGreat
open Go.RowKit
theorem labNe {L : Nat → Option (Int × Nat)} {g g' : Nat} {a b : Int × Nat} (h : L g = some a) (h' : L g' = some b) (hn : a ≠ b) : g ≠ g' := by
  rintro rfl
  rw [h] at h'
  injection h' with h'
  exact hn h'
theorem kids_le (C : St) (i : Int) : kids C i ≤ C.length := List.countP_le_length
section
variable {w : World} {c : Nat} {F G : List Nat} {C : St} {P : List Str}
set_option maxRecDepth 100000 in
set_option maxHeartbeats 3200000 in
theorem beginOp_any (h : Cs w c F G C) (hT : Tree C) (hl : C.length ≤ 1000000) {i p : Int} (hi : I64 i) (hp : I64 p) :
    Calls Tryz.prog 34 #[.pointer (some ⟨c, 0, none⟩), .int .i64 i, .int .i64 p] w fun e w' => e = .returned (.int .i64 (beginP C i p).1) ∧ Turned w w' c F G (beginP C i p).2 := by
  obtain ⟨m, Mo, L, h⟩ := h
  have f0 : w.cell? ⟨c, 0, none⟩ = some (.map (some m)) := h.cb.cell 0
  have l2 := h.look2 hp.1 hp.2
  have l1 := h.look hi.1 hi.2
  have HE : Hid (beginP C i p = if i < 1 then (1, C) else if has C i then (5, C) else if has C p then (0, ⟨i, p, [], [], []⟩ :: C) else (4, C)) := Lib.hid rfl
  by_cases h1 : i < 1
  · have e := HE.out
    rw [if_pos h1] at e
    rw [e]
    obtain ⟨q, hq⟩ : ∃ q, pv (if has C p = true then some (Mo p).b else none) = q := ⟨_, rfl⟩
    obtain ⟨t, ht⟩ : ∃ t, has C p = t := ⟨_, rfl⟩
    rw [hq, ht] at l2
    have HR := Lib.hid h
    clear h l1 hq ht e hT
    go_enter Tryz.func34, Tryz.ntmps34
    go_wp2_with fail
    go_ret
    exact ⟨rfl, Turned.same ⟨m, Mo, L, HR.out⟩ (Keeps.refl _ _)⟩
  · cases hhi : has C i with
    | true =>
      have e := HE.out
      rw [if_neg h1, if_pos hhi] at e
      rw [e]
      obtain ⟨q, hq⟩ : ∃ q, pv (if has C p = true then some (Mo p).b else none) = q := ⟨_, rfl⟩
      obtain ⟨t, ht⟩ : ∃ t, has C p = t := ⟨_, rfl⟩
      rw [hq, ht] at l2
      simp only [hhi, if_true] at l1
      have l1' : (Instr.lookup 63 (.map (some m)) (.int .i64 i) false).run Tryz.prog w = .ok (.pointer (some ⟨(Mo i).b, 0, none⟩)) w := l1
      have HR := Lib.hid h
      clear h l1 hq ht e hT hhi
      go_enter Tryz.func34, Tryz.ntmps34
      go_wp2_with fail
      go_ret
      exact ⟨rfl, Turned.same ⟨m, Mo, L, HR.out⟩ (Keeps.refl _ _)⟩
    | false =>
      simp only [hhi] at l1
      have l1' : (Instr.lookup 63 (.map (some m)) (.int .i64 i) false).run Tryz.prog w = .ok (.pointer none) w := l1
      cases hhp : has C p with
      | false =>
        have e := HE.out
        rw [if_neg h1, if_neg (by rw [hhi]; decide), if_neg (by rw [hhp]; decide)] at e
        rw [e]
        simp only [hhp] at l2
        have l2' : (Instr.lookup 63 (.map (some m)) (.int .i64 p) true).run Tryz.prog w = .ok (.tuple #[.pointer none, .bool false]) w := l2
        have HR := Lib.hid h
        clear h l1 l2 e hT hhi hhp
        go_enter Tryz.func34, Tryz.ntmps34
        go_wp2_with fail
        go_ret
        exact ⟨rfl, Turned.same ⟨m, Mo, L, HR.out⟩ (Keeps.refl _ _)⟩
      | true =>
        have e := HE.out
        rw [if_neg h1, if_neg (by rw [hhi]; decide), if_pos hhp] at e
        rw [e]
        obtain ⟨y, hy⟩ := has_find hhp
        simp only [hhp, if_true] at l2
        have l2' : (Instr.lookup 63 (.map (some m)) (.int .i64 p) true).run Tryz.prog w = .ok (.tuple #[.pointer (some ⟨(Mo p).b, 0, none⟩), .bool true]) w := l2
        obtain ⟨o, hlab⟩ := h.at_ hy
        have g1 : w.cell? ⟨(Mo p).b, 1, none⟩ = some (.int .i64 (kids C p)) := o.b.cell 1
        have hfz := o.b.frozen 1
        have hkl := kids_le C p
        have hcm : c ≠ (Mo p).b := labNe h.lc hlab.b (by intro e; injection e with _ e; omega)
        have B1 := Lib.hid (o.b.set_ 1 (.int .i64 ((kids C p : Int) + 1)))
        have K1 : Hid (Keeps [(Mo p).b] w (w.setCell ⟨(Mo p).b, 1, none⟩ (.int .i64 ((kids C p : Int) + 1)))) := Lib.hid ((Keeps.refl _ w).setCell (by simp) _)
        have hz1 : (w.setCell ⟨(Mo p).b, 1, none⟩ (.int .i64 ((kids C p : Int) + 1))).heap.size = w.heap.size := by simp [World.setCell]
        have Z1 := Lib.hid hz1
        have HR := Lib.hid h
        have HT := Lib.hid hT
        have HY := Lib.hid hy
        have HHI := Lib.hid hhi
        have hmp : m ≠ (Mo p).b := labNe h.lm hlab.b (by intro e; injection e with _ e; omega)
        have f0' : (w.setCell ⟨(Mo p).b, 1, none⟩ (.int .i64 ((kids C p : Int) + 1))).cell? ⟨c, 0, none⟩ = some (.map (some m)) := (K1.out.cell (p := ⟨c, 0, none⟩) h.cb.lt (by simpa using hcm)).trans f0
        have F0 := Lib.hid f0'
        clear h l1 l2 e hT hhi hhp o hlab hy hz1 f0'
        obtain ⟨nk, hnk⟩ : ∃ nk, kids C p = nk := ⟨_, rfl⟩
        rw [hnk] at g1 hkl B1 K1 Z1 F0
        have HNK := Lib.hid hnk
        clear hnk
        have i0 : (0 : Int) ≤ (nk : Int) := by omega
        have i1 : (nk : Int) ≤ 1000000 := by omega
        go_enter Tryz.func34, Tryz.ntmps34
        go_upto_region 9 with fail
        have G1 : Hid (GMap kI eP (w.setCell ⟨(Mo p).b, 1, none⟩ (.int .i64 ((nk : Int) + 1))) m C.length (fun j => if has C j = true then some (Mo j).b else none)) := Lib.hid (HR.out.all.keep K1.out (by simpa using hmp))
        generalize w.setCell ⟨(Mo p).b, 1, none⟩ (.int .i64 ((nk : Int) + 1)) = w1 at F0 Z1 K1 B1 G1 ⊢
        refine begin9_any w1 c m (Mo p).b C.length i _ _ (fun W hW => (hW.cell (p := ⟨c, 0, none⟩) (cell_lt F0.out) (by simp)).trans F0.out) (fun W hW => G1.out.keep hW (by simp)) (by unfold maxLen; omega) (kI_ok hi.1 hi.2) _ _ _ _ _ _ _ _ _ _ _ _ _ _ _ _ _ _ _ _ _ _ _ _ _ _ _ _ _ _ _ _ _ _ _ _ _ _ _ _ _ _ _ ?_
        intro v39 v40 v41 v42 v43 v44 v45 n W W9 f9 k9 z9 n9 m9 q9
        have hbn : (Mo p).b < w.heap.size := HR.out.ltF _ (HR.out.blkFi HY.out (by simp [Mem.blocks]))
        have hmn : m < w.heap.size := HR.out.ltF _ HR.out.mF
        have hz1 := Z1.out
        have KW : Keeps [(Mo p).b, m] w W9 := ((K1.out.mono (by simp)).trans k9 (by simp)).trans q9 (fun g hg => .inl (by rw [List.mem_singleton.1 hg]; simp))
        have hs9 : n + 5 ≤ W9.heap.size := by have := q9.size; omega
        have B9 := B1.out.keep (k9.mono (G := [m]) (by simp) |>.trans q9 (fun g hg => .inl hg)) (by simpa using Ne.symm hmp)
        have hC := HR.out.begun HT.out HY.out HHI.out (by omega) (n := n) (by omega) hs9 KW (by rw [HNK.out]; exact B9) m9 (f9.keep q9 (fun g hg => by rw [List.mem_singleton.1 hg]; omega))
        have HC := Lib.hid hC
        have HF : Hid (Turned w W9 c F G (⟨i, p, [], [], []⟩ :: C)) := Lib.hid ⟨_, G, hC, ⟨fun g hg => List.mem_append_right _ hg, fun g hg => by
          rcases List.mem_append.1 hg with h1 | h1
          · simp only [List.mem_cons, List.not_mem_nil, or_false] at h1
            omega
          · exact .inl h1⟩, More.refl _ _, KW.mono (fun g hg => by
          simp only [List.mem_cons, List.not_mem_nil, or_false] at hg
          rcases hg with rfl | rfl
          · exact HR.out.blkFi HY.out (by simp [Mem.blocks])
          · exact HR.out.mF)⟩
        clear f9 k9 z9 n9 m9 q9 KW B9 hC
        go_wp2_with fail
        go_ret
        exact ⟨rfl, HF.out⟩
set_option maxRecDepth 100000 in
set_option maxHeartbeats 3200000 in
theorem drop_any {m : Nat} {Mo : Int → Mem} {L : Nat → Option (Int × Nat)} (h : RepM w c m Mo L F G C) (hT : Tree C) (hl : C.length ≤ 1000000) {i : Int} (hi : I64 i) {x : One} (hx : find C i = some x) (h0 : i ≠ 0) :
    Calls Tryz.prog 75 #[.pointer (some ⟨c, 0, none⟩), .int .i64 i, .pointer (some ⟨(Mo i).b, 0, none⟩)] w fun e w' => e = .returned (.tuple #[]) ∧ RepM w' c m Mo L F G (dropP C i) ∧ Keeps [(Mo x.par).b, m] w w' := by
  obtain ⟨hxC, hxi⟩ := find_mem hx
  obtain ⟨y, hy⟩ := has_find (hT.par hxC (by rw [hxi]; exact h0))
  have f0 : w.cell? ⟨c, 0, none⟩ = some (.map (some m)) := h.cb.cell 0
  obtain ⟨o, hlab⟩ := h.at_ hy
  have hpp : parOf Mo x = some (Mo x.par).b := by unfold parOf; rw [if_neg (by rw [hxi]; exact h0)]
  have g0 : w.cell? ⟨(Mo i).b, 0, none⟩ = some (.pointer (some ⟨(Mo x.par).b, 0, none⟩)) := by
    have : w.cell? ⟨(Mo i).b, 0, none⟩ = some (pv (parOf Mo x)) := (h.at_ hx).1.b.cell 0
    rw [hpp] at this
    exact this
  have g1 : w.cell? ⟨(Mo x.par).b, 1, none⟩ = some (.int .i64 (kids C x.par)) := o.b.cell 1
  have hfz := o.b.frozen 1
  have hkl := kids_le C x.par
  have hk1 : 1 ≤ kids C x.par := by have := kids_drop hT hx h0 x.par; rw [if_pos rfl] at this; omega
  have hcm : c ≠ (Mo x.par).b := labNe h.lc hlab.b (by intro e; injection e with _ e; omega)
  have hmp : m ≠ (Mo x.par).b := labNe h.lm hlab.b (by intro e; injection e with _ e; omega)
  have B1 := Lib.hid (o.b.set_ 1 (.int .i64 ((kids C x.par : Int) - 1)))
  have K1 : Hid (Keeps [(Mo x.par).b] w (w.setCell ⟨(Mo x.par).b, 1, none⟩ (.int .i64 ((kids C x.par : Int) - 1)))) := Lib.hid ((Keeps.refl _ w).setCell (by simp) _)
  have F0 : Hid ((w.setCell ⟨(Mo x.par).b, 1, none⟩ (.int .i64 ((kids C x.par : Int) - 1))).cell? ⟨c, 0, none⟩ = some (.map (some m))) := Lib.hid ((K1.out.cell (p := ⟨c, 0, none⟩) h.cb.lt (by simpa using hcm)).trans f0)
  have G1 := Lib.hid (h.all.keep K1.out (by simpa using hmp))
  have HR := Lib.hid h
  have HT := Lib.hid hT
  have HX := Lib.hid hx
  have HY := Lib.hid hy
  clear h hT hx hy o hlab hpp hxi
  obtain ⟨nk, hnk⟩ : ∃ nk, kids C x.par = nk := ⟨_, rfl⟩
  rw [hnk] at g1 hkl hk1 B1 K1 F0 G1
  have HNK := Lib.hid hnk
  clear hnk
  have i0 : (1 : Int) ≤ (nk : Int) := by omega
  have i1 : (nk : Int) ≤ 1000000 := by omega
  go_enter Tryz.func75, Tryz.ntmps75
  go_upto_region 1 with fail
  generalize w.setCell ⟨(Mo x.par).b, 1, none⟩ (.int .i64 ((nk : Int) - 1)) = w1 at F0 K1 B1 G1 ⊢
  have f1 := F0.out
  go_wp2_with (at_delete; (refine wpList_delGM rfl _ _ 63 rfl Tryz.underlying63 rfl G1.out i rfl (kI_ok hi.1 hi.2) ?_; intro w2 h2 k2))
  have e1 : ((nk : Int) - 1) = ((nk - 1 : Nat) : Int) := by omega
  have B2 := B1.out.keep k2 (by simpa using Ne.symm hmp)
  rw [e1] at B2
  have KW : Keeps [(Mo x.par).b, m] w w2 := (K1.out.mono (by simp)).trans k2 (fun g hg => .inl (by rw [List.mem_singleton.1 hg]; simp))
  have hR := HR.out.dropped HT.out HX.out h0 HY.out KW (by rw [HNK.out]; exact B2) h2
  have HR2 := Lib.hid hR
  have KW2 := Lib.hid KW
  clear h2 k2 e1 B2 KW hR
  go_end0
  exact ⟨rfl, HR2.out, KW2.out⟩
end
end Go.Proofs.YtbllmpcpfmlemaaGreat
namespace Go.Proofs.YtbllmpcpfmlemaaGreat
open Go.RowKit
set_option maxRecDepth 100000 in
set_option maxHeartbeats 1600000 in
theorem zero32 (w : World) (x : Int) (t : Bool) (ht : decide (x = 0) = t) : Calls Tryz.prog 68 #[.int .i64 x] w fun e w' => e = .returned (.bool t) ∧ w' = w := by
  cases t with
  | true =>
    obtain rfl := of_decide_eq_true ht
    clear ht
    go_enter Tryz.func68, Tryz.ntmps68
    go_wp2_with fail
    go_ret
    exact ⟨rfl, rfl⟩
  | false =>
    have h := of_decide_eq_false ht
    have h2 : (x == 0) = false := by simpa using h
    clear ht
    go_enter Tryz.func68, Tryz.ntmps68
    go_wp2_with fail
    go_ret
    first
      | exact ⟨rfl, rfl⟩
      | exact ⟨ret_bool h2, rfl⟩
set_option maxRecDepth 100000 in
set_option maxHeartbeats 1600000 in
theorem idx0_any (w : World) (g n cap : Nat) (h : w.cell? ⟨g, 0, none⟩ = some (.int .i64 0)) :
    Calls Tryz.prog 92 #[.slice (some ⟨g, 0, none⟩) (n + 1) cap, .func (.func 68) #[] #[]] w fun e w' => e = .returned (.int .i64 0) ∧ w' = w := by
  have i0 : (0 : Int) < (n : Int) + 1 := by omega
  go_enter Tryz.func92, Tryz.ntmps92
  go_wp2_with fail
  go_loop [8] (fun iv => iv = .int .i64 0) (fun _ => 0)
  case atStart => rfl
  case round =>
    subst hrel
    go_wp2_with fail
    refine (zero32 _ 0 true rfl).mono ?_
    rintro e w1 ⟨rfl, rfl⟩
    go_wp2_with fail
    go_ret
    exact ⟨rfl, rfl⟩
theorem shift_at {r : List Int} {k : Nat} (hk : k < r.length) : (zs (r.take k ++ (0 :: r).drop k))[k + 1]? = some (.int .i64 r[k]) := by
  have hl : (r.take k).length = k := by rw [List.length_take]; omega
  unfold zs
  rw [List.getElem?_map, List.getElem?_append_right (by omega), hl, List.getElem?_drop]
  simp [hk]
theorem shift_set {r : List Int} {k : Nat} (hk : k < r.length) : (zs (r.take k ++ (0 :: r).drop k)).set k (.int .i64 r[k]) = zs (r.take (k + 1) ++ (0 :: r).drop (k + 1)) := by
  have hl : (r.take k).length = k := by rw [List.length_take]; omega
  unfold zs
  rw [← List.map_set]
  have e : (0 :: r).drop k = ((0 :: r)[k]'(by simp; omega)) :: (0 :: r).drop (k + 1) := List.drop_eq_getElem_cons (by simp; omega)
  rw [e, List.set_append_right _ _ (by omega), hl, Nat.sub_self, List.set_cons_zero, List.take_succ_eq_append_getElem hk, List.append_assoc]
  rfl
theorem shift_end (r : List Int) (k : Nat) (hk : r.length = k) : ∃ y, zs (r.take k ++ (0 :: r).drop k) = zs r ++ [y] := by
  subst hk
  have e : (0 :: r).drop r.length = [((0 :: r)[r.length]'(by simp))] := by
    rw [List.drop_eq_getElem_cons (by simp)]
    simp
  rw [e, List.take_length]
  refine ⟨.int .i64 ((0 :: r)[r.length]'(by simp)), ?_⟩
  unfold zs
  rw [List.map_append]
  rfl
set_option maxRecDepth 100000 in
set_option maxHeartbeats 3200000 in
theorem del0_any (w : World) (v : Value) (r : List Int) (hr : ∀ x ∈ r, x ≠ 0) (hn : r.length ≤ 1000000) (ho : w.ownsRow 0 3 1 v (r.length + 1) (zs (0 :: r))) :
    Calls Tryz.prog 65 #[v, .func (.func 68) #[] #[]] w fun e w' => ∃ v', e = .returned v' ∧ w'.ownsRow 0 3 1 v' r.length (zs r) ∧ Keeps (fp v) w w' ∧ ∀ g ∈ fp v', g ∈ fp v := by
  obtain ⟨A, cap, rfl, hcap, hmax, hA⟩ := own_shape ho
  obtain ⟨g, rfl⟩ := hA (by omega)
  have HO := Lib.hid ho
  have c0 : w.cell? ⟨g, 0, none⟩ = some (.int .i64 0) := own_cell ho (by rfl)
  have hidx := idx0_any w g r.length cap c0
  have HR := Lib.hid hr
  obtain ⟨n, hnl⟩ : ∃ n, r.length = n := ⟨_, rfl⟩
  rw [hnl] at hidx hcap hn HO ⊢
  have HN := Lib.hid hnl
  clear ho c0 hr hnl hA
  unfold maxLen at hmax
  go_enter Tryz.func65, Tryz.ntmps65
  go_wp2_with fail
  refine hidx.mono ?_
  rintro e w1 ⟨rfl, rfl⟩
  clear hidx
  go_wp2_with fail
  go_loopw [6, 5] (fun jv iv wr => ∃ k : Nat, k ≤ n ∧ jv = .int .i64 ((k : Int) + 1) ∧ iv = .int .i64 k ∧ wr.ownsRow 0 3 1 (.slice (some ⟨g, 0, none⟩) (n + 1) cap) (n + 1) (zs (r.take k ++ (0 :: r).drop k)) ∧ Keeps [g] w1 wr) (fun jv _ _ => n + 1 - (intOf jv).toNat)
  case atStart => exact ⟨0, by omega, rfl, rfl, HO.out, Keeps.refl _ _⟩
  case round =>
    obtain ⟨k, hk, rfl, rfl, ho, kp⟩ := hrel
    have HOk := Lib.hid ho
    have KP := Lib.hid kp
    have i0 : (0 : Int) ≤ (k : Int) := by omega
    by_cases hlt : k < n
    · have hlr : k < r.length := by rw [HN.out]; exact hlt
      have c1 : wr.cell? ⟨g, k + 1, none⟩ = some (.int .i64 r[k]) := own_cell ho (shift_at hlr)
      have c0 : (wr.cell? ⟨g, k, none⟩).isSome = true := by
        obtain ⟨cur, hb, h1, h2, h3, h4⟩ := own_blk ho
        rw [hb.cell, Array.getElem?_eq_getElem (by omega)]
        rfl
      obtain ⟨u, hu⟩ := Option.isSome_iff_exists.1 c0
      have hz := own_free ho k
      have HS := Lib.hid (own_set ho k (.int .i64 r[k]))
      have e1 := shift_set hlr
      rw [e1] at HS
      have hne : r[k] ≠ 0 := HR.out _ (List.getElem_mem hlr)
      have KS := Lib.hid (kp.setCell (p := ⟨g, k, none⟩) (.inl (by simp)) (.int .i64 r[k]))
      have hcl := fun W => zero32 W r[k] false (decide_eq_false hne)
      clear ho kp e1 hne c0
      generalize r[k] = y at c1 HS KS hcl
      have i1 : (k : Int) + 1 < (n : Int) + 1 := by omega
      have i2 : (k : Int) < (n : Int) + 1 := by omega
      go_wp2_with fail
      refine (hcl _).mono ?_
      rintro e w2 ⟨rfl, rfl⟩
      go_wp2_with fail
      exact ⟨⟨k + 1, by omega, rfl, rfl, HS.out, KS.out⟩, by simp only [intOf]; omega⟩
    · obtain rfl : k = n := by omega
      have hz : (Builtin.zeroCells (Value.int .i64 0).cells 1).toList = [.int .i64 0] := by simp [Builtin.zeroCells, Value.cells]
      have hcl := fun ty => run_clear_one wr 42 3 ty (.int .i64 0) [.int .i64 0] Tryz.underlying42 (fun w => by kernel_rfl) hz (by simp [Value.oneCell']) g k (cap - k)
        (fun j hj => by
          obtain ⟨cur, hb, h1, h2, h3, h4⟩ := own_blk ho
          rw [hb.cell, Array.getElem?_eq_getElem (by simp at hj; omega)]
          rfl) (fun j _ => own_free ho _)
      have o6 : (wr.setCells g k [.int .i64 0]).ownsRow 0 3 1 (.slice (some ⟨g, 0, none⟩) k cap) k (zs r) := by
        obtain ⟨cur, hb, h1, h2, h3, h4⟩ := own_blk ho
        have hl : k + [Value.int .i64 0].length ≤ cur.size := by simp; omega
        refine own_of_blk (hb.setCells [.int .i64 0] k hl) (by omega) h2 ?_ ?_
        · rw [List.size_toArray, splice_len (by rw [Array.length_toList]; exact hl), Array.length_toList, h3]
        · have hk2 : k = r.length := HN.out.symm
          obtain ⟨y, e⟩ := shift_end r k HN.out
          rw [e] at h4
          rw [List.toList_toArray]
          unfold splice
          have h5 : (cur.toList.take ((k + 1) * 1)).take k = (zs r ++ [y]).take k := by rw [h4]
          rw [List.take_take, Nat.min_eq_left (by omega)] at h5
          rw [Nat.mul_one, List.append_assoc, List.take_append_of_le_length (by rw [List.length_take, Array.length_toList, h3]; omega), List.take_take, Nat.min_self, h5, List.take_append_of_le_length (by simp [zs]; omega), List.take_of_length_le (by simp [zs]; omega)]
      have k6 : Keeps [g] w1 (wr.setCells g k [.int .i64 0]) := kp.setCells _ _ (.inl (by simp))
      have O6 := Lib.hid o6
      have K6 := Lib.hid k6
      have i1 : ¬ ((k : Int) + 1 < (k : Int) + 1) := by omega
      have hx0 : k ≤ cap := by omega
      have hx1 : cap ≠ k := by omega
      clear ho kp o6 k6 hz HO HR HN
      go_wp2_with fail
      go_ret
      exact ⟨_, rfl, O6.out, K6.out, by simp⟩
end Go.Proofs.YtbllmpcpfmlemaaGreat
namespace Go.Proofs.YtbllmpcpfmlemaaGreat
open Go.RowKit
theorem ascI_ext {l m : List Int} (hl : AscI l) (hm : AscI m) (h : ∀ x, x ∈ l ↔ x ∈ m) : l = m := by
  induction l generalizing m with
  | nil =>
    cases m with
    | nil => rfl
    | cons y m => exact absurd ((h y).2 (by simp)) (by simp)
  | cons x l ih =>
    cases m with
    | nil => exact absurd ((h x).1 (by simp)) (by simp)
    | cons y m =>
      obtain ⟨h1, h2⟩ := List.pairwise_cons.1 hl
      obtain ⟨h3, h4⟩ := List.pairwise_cons.1 hm
      have e : x = y := by
        rcases List.mem_cons.1 ((h x).1 (by simp)) with e | e
        · exact e
        · rcases List.mem_cons.1 ((h y).2 (by simp)) with e' | e'
          · exact e'.symm
          · have := h1 y e'; have := h3 x e; omega
      subst e
      congr 1
      refine ih h2 h4 fun z => ?_
      constructor
      · intro hz
        rcases List.mem_cons.1 ((h z).1 (by simp [hz])) with e | e
        · have := h1 z hz; omega
        · exact e
      · intro hz
        rcases List.mem_cons.1 ((h z).2 (by simp [hz])) with e | e
        · have := h3 z hz; omega
        · exact e
/-- The numbers of the trials. -/
def liveP (C : St) : List Int := srt ((C.map (·.id)).filter fun x => decide (x ≠ 0))
theorem ids_nodup {C : St} (h : Tree C) : (C.map (·.id)).Nodup := by
  induction C with
  | nil => exact List.nodup_nil
  | cons z t ih =>
    rw [List.map_cons, List.nodup_cons]
    rcases h with ⟨_, _, rfl⟩ | ⟨_, _, h3, h4⟩
    · simp
    · refine ⟨fun hm => ?_, ih h4⟩
      obtain ⟨y, hy, e⟩ := List.mem_map.1 hm
      rw [has_iff.2 ⟨y, hy, e⟩] at h3
      cases h3
theorem mem_ids {C : St} {x : Int} : x ∈ C.map (·.id) ↔ has C x = true := by
  rw [has_iff, List.mem_map]
theorem live_ok {C : St} (h : Tree C) : AscI (liveP C) ∧ ∀ x, x ∈ liveP C ↔ x ≠ 0 ∧ has C x = true := by
  obtain ⟨h1, h2⟩ := asc_sorted (l := (C.map (·.id)).filter fun x => decide (x ≠ 0)) ((ids_nodup h).sublist List.filter_sublist)
  refine ⟨h1, fun x => ?_⟩
  show x ∈ srt _ ↔ _
  rw [h2, List.mem_filter, mem_ids, decide_eq_true_eq, and_comm]
theorem live_len {C : St} : (liveP C).length ≤ C.length := by
  unfold liveP
  rw [srt_len]
  refine Nat.le_trans (List.length_filter_le _ _) ?_
  simp
section
variable {w : World} {c : Nat} {F G : List Nat} {C : St} {P : List Str}
set_option maxRecDepth 100000 in
set_option maxHeartbeats 1600000 in
theorem live_any (h : Cs w c F G C) (hW : WF P C) (hl : C.length ≤ 1000000) :
    Calls Tryz.prog 20 #[.pointer (some ⟨c, 0, none⟩)] w fun e w' => ∃ v, e = .returned v ∧ w'.ownsRow 0 3 1 v (liveP C).length (zs (liveP C)) ∧ Keeps [] w w' ∧ ∀ g ∈ fp v, w.heap.size ≤ g := by
  obtain ⟨m, Mo, L, h⟩ := h
  have f0 : w.cell? ⟨c, 0, none⟩ = some (.map (some m)) := h.cb.cell 0
  have K0 : Hid (Keeps [] w (w.alloc (.cells #[.map (some m)] 63))) := Lib.hid ((Keeps.refl [] w).alloc _)
  have B0 := Lib.hid (Blk.new w 63 #[.map (some m)])
  have G0 := Lib.hid (h.all.keep K0.out (by simp))
  have HW := Lib.hid hW
  clear h hW
  go_enter Tryz.func20, Tryz.ntmps20
  go_wp2_with fail
  refine (keys_any (some m) w).mono ?_
  rintro e w1 ⟨rfl, rfl⟩
  go_wp2_with fail
  refine (sorted_gm _ m _ _ _ G0.out (by omega) B0.out).mono ?_
  rintro e w2 ⟨v, ss, rfl, s1, s2, s3, s4, s5, s6⟩
  have e1 : ss = 0 :: liveP C := by
    obtain ⟨a1, a2⟩ := live_ok HW.out.tree
    refine ascI_ext s1 (List.pairwise_cons.2 ⟨fun y hy => ?_, a1⟩) (fun x => ?_)
    · obtain ⟨h1, h2⟩ := (a2 y).1 hy
      obtain ⟨z, hz, e⟩ := has_iff.1 h2
      have := HW.out.tree.pos hz
      omega
    · rw [s2, List.mem_cons, a2]
      constructor
      · rintro ⟨_, h2⟩
        by_cases hx : x = 0
        · exact .inl hx
        · refine .inr ⟨hx, ?_⟩
          cases hh : has C x with
          | true => rfl
          | false => rw [hh] at h2; cases h2
      · intro hx
        have hh : has C x = true := by
          rcases hx with rfl | hx
          · exact HW.out.tree.zero
          · exact hx.2
        obtain ⟨z, hz, rfl⟩ := has_iff.1 hh
        have := HW.out.ok z hz
        exact ⟨kI_ok this.id1 this.id2, by rw [hh]; rfl⟩
  subst e1
  have hne : ∀ x ∈ liveP C, x ≠ 0 := fun x hx => (((live_ok HW.out.tree).2 x).1 hx).1
  have hll := live_len (C := C)
  have hdel := del0_any w2 v (liveP C) hne (by omega) s4
  have S6 : Hid (∀ g ∈ fp v, w.heap.size ≤ g) := Lib.hid (fun g hg => Nat.le_trans K0.out.size (s6 g hg))
  have K2 := Lib.hid (K0.out.trans s5 (by simp))
  clear s1 s2 s3 s4 s5 s6 hne G0 B0
  go_wp2_with fail
  refine hdel.mono ?_
  rintro e w3 ⟨v', rfl, o3, k3, g3⟩
  have O3 := Lib.hid o3
  have K3 : Hid (Keeps [] w w3) := Lib.hid (K2.out.trans k3 (fun g hg => .inr (S6.out g hg)))
  have G3 : Hid (∀ g ∈ fp v', w.heap.size ≤ g) := Lib.hid (fun g hg => S6.out g (g3 g hg))
  clear o3 k3 g3 hdel
  go_wp2_with fail
  go_ret
  exact ⟨v', rfl, O3.out, K3.out, G3.out⟩
end
end Go.Proofs.YtbllmpcpfmlemaaGreat
