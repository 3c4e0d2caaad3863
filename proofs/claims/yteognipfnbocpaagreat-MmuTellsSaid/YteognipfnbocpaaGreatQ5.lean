/- The reference's Spaces. -/
import Derived.Test.YteognipfnbocpaaGreatQ4
namespace Go.Proofs.YteognipfnbocpaaGreat
open Go.RowKit
open T12 (E TbRep RfRep ent ents cells5 mapM mapN wlkM wlkB wlkN unmM clrM clrB lookX)
open T13 (Tl En TlRep es)

theorem ix_self {r : Rm} (h : Asc r.N) {i : Nat} (hi : i < r.N.length) : r.ix r.N[i] = some i := by
  unfold Rm.ix
  rw [List.findIdx?_eq_some_iff_getElem]
  refine ⟨hi, by simp, fun j hj => ?_⟩
  have := List.pairwise_iff_getElem.1 h j i (by omega) hi hj
  simp
  omega
theorem tab_self {r : Rm} (h : Asc r.N) {i : Nat} (hi : i < r.N.length) {m : Pg} (hm : r.M[i]? = some m) : r.tab r.N[i] = m := by
  unfold Rm.tab
  rw [ix_self h hi]
  show (r.M[i]?).getD pg0 = m
  rw [hm]
  rfl
/-- Whether a space has entries. -/
def hasR (r : Rm) (x : Int) : Bool := decide (0 < (ents (r.tab x) 256).length)
set_option maxRecDepth 100000 in
set_option maxHeartbeats 3200000 in
theorem rspaces_any (w : World) (F : List Nat) (p : Nat) (r : Rm) (h : RmRep w F p r) (ha : Asc r.N) (hn : r.N.length ≤ 1000000) :
    Calls Tryz.prog 12 #[.pointer (some ⟨p, 0, none⟩)] w fun e w' => ∃ v, e = .returned v ∧ w'.ownsRow 0 3 1 v (r.N.filter (hasR r)).length (iv (r.N.filter (hasR r))) ∧ Keeps [] w w' ∧ ∀ g ∈ fp v, w.heap.size ≤ g := by
  obtain ⟨L, A1, A2, A3, c1, c2, c3, qs, cs, h⟩ := h
  obtain ⟨_, _, hv, -, -, hA⟩ := own_shape h.o1
  obtain ⟨rfl, -, rfl⟩ : A1 = _ ∧ r.N.length = _ ∧ c1 = _ := by injection hv with h1 h2 h3; exact ⟨h1, rfl, h3⟩
  clear hv
  obtain ⟨_, _, hv, -, -, hB⟩ := own_shape h.o2
  obtain ⟨rfl, -, rfl⟩ : A2 = _ ∧ r.M.length = _ ∧ c2 = _ := by injection hv with h1 h2 h3; exact ⟨h1, rfl, h3⟩
  clear hv
  have HH := Lib.hid h
  have HA := Lib.hid ha
  have HI3 := Lib.hid info3i
  have c0 := h.bp.cell 0
  have hpl := h.bp.lt
  clear h ha
  go_enter Tryz.func12, Tryz.ntmps12
  go_wp2_with fail
  go_loopw [3, 4] (fun v i wr => ∃ k : Nat, k ≤ r.N.length ∧ i = .int .i64 k ∧ wr.ownsRow 0 3 1 v ((r.N.take k).filter (hasR r)).length (iv ((r.N.take k).filter (hasR r))) ∧ Keeps [] w wr ∧ ∀ g ∈ fp v, w.heap.size ≤ g) (fun _ i _ => r.N.length - (intOf i).toNat)
  case atStart => exact ⟨0, by omega, rfl, World.ownsRow_nil _ _ _ _, Keeps.refl _ _, by simp⟩
  case round =>
    obtain ⟨k, hk, rfl, ho3, k3, f3⟩ := hrel
    have hx := HH.out.keep k3 (by simp)
    have e0 := hx.bp.cell 0
    have e1 := hx.bp.cell 1
    by_cases hlt : k < r.N.length
    rotate_left
    · obtain rfl : k = r.N.length := by omega
      rw [List.take_length] at ho3
      obtain ⟨A3', cap3', rfl, -, -, -⟩ := own_shape ho3
      have HO := Lib.hid (And.intro ho3 (And.intro k3 f3))
      clear ho3 k3 f3 hx
      go_wp2_with fail
      go_ret
      exact ⟨_, rfl, HO.out.1, HO.out.2.1, HO.out.2.2⟩
    · have hM : k < r.M.length := by rw [← HH.out.nm]; exact hlt
      obtain ⟨g1, rfl⟩ := hA (by omega)
      obtain ⟨g2, rfl⟩ := hB (by omega)
      obtain ⟨G, q, hq, ht, -⟩ := hx.ts k r.M[k] (List.getElem?_eq_getElem hM)
      have y0 := own_cell hx.o1 (j := k) (u := .int .i64 r.N[k]) (by unfold iv; rw [List.getElem?_map, List.getElem?_eq_getElem hlt]; rfl)
      have y1 := own_cell hx.o2 (j := k) (u := .pointer (some ⟨q, 0, none⟩)) (by rw [List.getElem?_map, hq]; rfl)
      obtain ⟨At, ct, ht⟩ := ht
      have z0 := ht.b.cell 0
      have htab := tab_self HA.out hlt (List.getElem?_eq_getElem hM)
      have hE : hasR r r.N[k] = decide (0 < (ents r.M[k] 256).length) := by unfold hasR; rw [htab]
      have hfs := filter_take_succ (hasR r) r.N hlt
      have hfl : ((r.N.take k).filter (hasR r)).length ≤ 1000000 := Nat.le_trans (List.length_filter_le _ _) (by rw [List.length_take]; omega)
      have HFS := Lib.hid hfs
      have HHE := Lib.hid hE
      have HO3 := Lib.hid ho3
      have HK3 := Lib.hid k3
      have HF3 := Lib.hid f3
      have hkN : (k : Int) < (r.N.length : Int) := by omega
      have hkM : (k : Int) < (r.M.length : Int) := by omega
      obtain ⟨Av, cv, rfl, -, -, -⟩ := own_shape ho3
      have hwl : w.heap.size ≤ wr.heap.size := k3.size
      have HWL := Lib.hid hwl
      clear hfs hE ho3 k3 f3 hx ht hq htab hwl
      generalize (r.N.take k).filter (hasR r) = l3 at *
      generalize r.N[k] = x at *
      generalize (ents r.M[k] 256).length = n0 at *
      by_cases hp : 0 < n0
      · have hq := HFS.out
        rw [HHE.out, decide_eq_true hp, if_pos rfl] at hq
        have HQ := Lib.hid hq
        have HO5 := Lib.hid (own_keep HO3.out ((Keeps.refl [] _).alloc (.cells #[.int .i64 x] 3)) (by simp))
        clear HFS HHE hq
        go_wp2_with (at_builtin; refine wpList_app _ rfl (.tmp 26) (.tmp 34) _ rfl 3 (.int .i64 0) 1 8 Tryz.underlying30 HI3.out rfl (by omega) (.slice Av l3.length cv) _ _ rfl HO5.out _ _ _ _ [.int .i64 x] rfl (reads_one _ _ 3) (by simp [Value.oneCell']) (by unfold maxLen; omega) (by omega) ?_)
        intro v6 w6 o6 k6 f6
        have HR : Hid (w6.ownsRow 0 3 1 v6 (l3 ++ [x]).length (iv (l3 ++ [x])) ∧ Keeps [] w w6 ∧ ∀ g ∈ fp v6, w.heap.size ≤ g) := Lib.hid ⟨by
          rw [List.length_append]; unfold iv; rw [List.map_append]; exact o6, (HK3.out.alloc _).trans k6 (fun g hg => .inr (HF3.out g hg)), fun g hg => (f6 g hg).elim (HF3.out g) (fun h => by have h1 : wr.heap.size + 1 ≤ g := (by simpa using h); have := HWL.out; omega)⟩
        clear o6 k6 f6 HO5 HF3 HO3 HK3
        go_wp2_with fail
        go_roundw
        case rel => exact ⟨k + 1, by omega, by go_num, by rw [HQ.out]; exact HR.out.1, HR.out.2.1, HR.out.2.2⟩
        case measure => simp [intOf]; omega
      · have hq := HFS.out
        rw [HHE.out, decide_eq_false hp, if_neg (by simp), List.append_nil] at hq
        have HQ := Lib.hid hq
        clear HFS HHE hq
        go_wp2_with fail
        go_roundw
        case rel => exact ⟨k + 1, by omega, by go_num, by rw [HQ.out]; exact HO3.out, HK3.out, HF3.out⟩
        case measure => simp [intOf]; omega
end Go.Proofs.YteognipfnbocpaaGreat
