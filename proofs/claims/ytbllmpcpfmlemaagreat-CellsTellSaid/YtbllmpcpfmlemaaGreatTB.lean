/- The texts T8, T9, T10 in one. -/
import Derived.Test.YtbllmpcpfmlemaaGreatT7
namespace Go.Proofs.YtbllmpcpfmlemaaGreat
open Go.RowKit
theorem upd_reverse {C : St} (h : Row0 C) {k : Nat} (hk : k < C.reverse.length) {i : Int} (hi : C.reverse[k].id = i) (f : One → One) :
    (upd C i f).reverse = C.reverse.take k ++ f C.reverse[k] :: C.reverse.drop (k + 1) := by
  have h1 : (upd C i f).reverse = C.reverse.map (fun x => if x.id = i then f x else x) := by unfold upd; rw [List.map_reverse]
  rw [h1]
  conv => lhs; rw [← List.take_append_drop k C.reverse, List.drop_eq_getElem_cons hk]
  rw [List.map_append, List.map_cons, if_pos hi]
  congr 1
  · refine (List.map_congr_left (fun x hx => ?_)).trans (List.map_id _)
    obtain ⟨j, hj, rfl⟩ := List.mem_iff_getElem.1 hx
    rw [List.length_take] at hj
    rw [List.getElem_take, if_neg]
    · rfl
    · intro e
      have := h.inj (j := j) (k := k) (by omega) hk (by rw [e, hi])
      omega
  · congr 1
    refine (List.map_congr_left (fun x hx => ?_)).trans (List.map_id _)
    obtain ⟨j, hj, rfl⟩ := List.mem_iff_getElem.1 hx
    rw [List.length_drop] at hj
    rw [List.getElem_drop, if_neg]
    · rfl
    · intro e
      have := h.inj (j := k + 1 + j) (k := k) (by omega) hk (by rw [e, hi])
      omega
theorem rw_congr1 {α : Type} {c d : α → List Value} {l : List α} (h : ∀ r ∈ l, c r = d r) : rw c l = rw d l := by
  induction l with
  | nil => rfl
  | cons x l ih => rw [rw_cons, rw_cons, h x (by simp), ih (fun r hr => h r (by simp [hr]))]
theorem rw_upd {C : St} (h : Row0 C) {k : Nat} (hk : k < C.reverse.length) {i : Int} (hi : C.reverse[k].id = i) (f : One → One) (ms ms' : Int → Mr) (hne : ∀ j, j ≠ i → ms' j = ms j) (v : List Value) (hv : v = oc ms' (f C.reverse[k])) :
    splice (rw (oc ms) C.reverse) (k * 5) v = rw (oc ms') (upd C i f).reverse := by
  have hlen : v.length = 5 := by rw [hv]; exact oc_len _ _
  unfold splice
  rw [hlen, show k * 5 + 5 = (k + 1) * 5 by omega, rw_take (oc_len ms), rw_drop (oc_len ms), upd_reverse h hk hi, rw_append, rw_cons, hv, List.append_assoc]
  have hx : ∀ x : One, x.id ≠ i → oc ms x = oc ms' x := fun x hx => by unfold oc; rw [hne _ hx]
  congr 1
  · refine rw_congr1 (fun x hx' => hx x ?_)
    obtain ⟨j, hj, rfl⟩ := List.mem_iff_getElem.1 hx'
    rw [List.length_take] at hj
    rw [List.getElem_take]
    intro e
    have := h.inj (j := j) (k := k) (by omega) hk (by rw [e, hi])
    omega
  · congr 1
    refine rw_congr1 (fun x hx' => hx x ?_)
    obtain ⟨j, hj, rfl⟩ := List.mem_iff_getElem.1 hx'
    rw [List.length_drop] at hj
    rw [List.getElem_drop]
    intro e
    have := h.inj (j := k + 1 + j) (k := k) (by omega) hk (by rw [e, hi])
    omega
/-- The one at the place k has turned. -/
theorem RfM.turn1 {w w' : World} {d g : Nat} {cap : Nat} {ms : Int → Mr} {F G G' : List Nat} {C : St} (h : RfM w d (some ⟨g, 0, none⟩) cap ms F G C) (hr : Row0 C) {k : Nat} (hk : k < C.reverse.length) {i : Int} (hi : C.reverse[k].id = i) (f : One → One) (hid : ∀ x, (f x).id = x.id) (hpar : ∀ x, (f x).par = x.par)
    (hkp : Keeps [g] w w') (v1 v2 v3 : Value)
    (hrow : w'.ownsRow 0 68 5 (.slice (some ⟨g, 0, none⟩) C.length cap) C.length (splice (rw (oc ms) C.reverse) (k * 5) [.int .i64 C.reverse[k].id, .int .i64 C.reverse[k].par, v1, v2, v3]))
    (hone : OneV w' (v1, v2, v3) (f C.reverse[k]) G') (hGG : ∀ g ∈ G, g ∈ G') (hGn : ∀ g ∈ G', g ∈ G ∨ w.heap.size ≤ g) (hGl : ∀ g ∈ G', g < w'.heap.size) : RTurn w w' d F G (upd C i f) := by
  have hgF : g ∈ F := h.rF g (by simp [fp, Value.ownBlock])
  have hgG : g ∉ G := fun h' => h.off g h' hgF
  have hdg : d ≠ g := by
    intro e
    have h1 := own_ty h.row g (by simp [fp, Value.ownBlock])
    obtain ⟨cs, fr, hh⟩ := h1
    have hb := h.b
    rw [e] at hb
    unfold Blk at hb
    rw [hb] at hh
    injection hh with hh
    injection hh with _ ht
    exact absurd ht (by decide)
  have hs := hkp.size
  refine ⟨F, G', ⟨some ⟨g, 0, none⟩, cap, fun j => if j = i then (v1, v2, v3) else ms j, ?_, ?_, ?_, h.dF, ?_, fun g hg => Nat.lt_of_lt_of_le (h.ltF g hg) hs, hGl, fun g hg h' => ?_⟩, fun g hg => .inl hg, hGn, hkp.mono (by simpa using hgF)⟩
  · rw [upd_len]; exact h.b.keep hkp (by simpa using hdg)
  · rw [upd_len]
    rw [rw_upd hr hk hi f ms (fun j => if j = i then (v1, v2, v3) else ms j) (fun j hj => if_neg hj) _ ?_] at hrow
    · exact hrow
    · unfold oc
      dsimp only
      rw [hid, hpar, if_pos hi]
  · intro y hy
    obtain ⟨x, hx, ⟨hxi, rfl⟩ | ⟨hxi, rfl⟩⟩ := mem_upd hy
    · obtain ⟨j, hj, e⟩ := List.mem_iff_getElem.1 (List.mem_reverse.2 hx)
      obtain rfl := hr.inj hj hk (by rw [e, hxi, hi])
      rw [hid, if_pos hxi, ← e]
      exact hone
    · rw [if_neg hxi]
      exact ((h.one y hx).keep hkp (fun g' hg' h' => by rw [List.mem_singleton.1 h'] at hg'; exact hgG hg')).mono hGG
  · rw [upd_len]; exact h.rF
  · rcases hGn g hg with h1 | h1
    · exact h.off g h1 h'
    · have := h.ltF g h'; omega
theorem RfM.cellsX {w : World} {d : Nat} {A : Option Addr} {cap : Nat} {ms : Int → Mr} {F G : List Nat} {C : St} (h : RfM w d A cap ms F G C) {k : Nat} (hk : k < C.reverse.length) {x : One} (hx : C.reverse[k] = x) :
    ∃ g, A = some ⟨g, 0, none⟩ ∧ w.cell? ⟨g, k * 5, none⟩ = some (.int .i64 x.id) ∧ w.cell? ⟨g, k * 5 + 1, none⟩ = some (.int .i64 x.par) ∧ w.cell? ⟨g, k * 5 + 2, none⟩ = some (ms x.id).1 ∧
      w.cell? ⟨g, k * 5 + 3, none⟩ = some (ms x.id).2.1 ∧ w.cell? ⟨g, k * 5 + 4, none⟩ = some (ms x.id).2.2 := by
  subst hx
  exact h.cells hk
theorem RfM.turnX {w w' : World} {d g : Nat} {cap : Nat} {ms : Int → Mr} {F G G' : List Nat} {C : St} (h : RfM w d (some ⟨g, 0, none⟩) cap ms F G C) (hr : Row0 C) {k : Nat} (hk : k < C.reverse.length) {x : One} (hx : C.reverse[k] = x) (f : One → One) (hid : ∀ x, (f x).id = x.id) (hpar : ∀ x, (f x).par = x.par)
    (hkp : Keeps [g] w w') (v1 v2 v3 : Value)
    (hrow : w'.ownsRow 0 68 5 (.slice (some ⟨g, 0, none⟩) C.length cap) C.length (splice (rw (oc ms) C.reverse) (k * 5) [.int .i64 x.id, .int .i64 x.par, v1, v2, v3]))
    (hone : OneV w' (v1, v2, v3) (f x) G') (hGG : ∀ g ∈ G, g ∈ G') (hGn : ∀ g ∈ G', g ∈ G ∨ w.heap.size ≤ g) (hGl : ∀ g ∈ G', g < w'.heap.size) : RTurn w w' d F G (upd C x.id f) := by
  subst hx
  exact h.turn1 hr hk rfl f hid hpar hkp v1 v2 v3 hrow hone hGG hGn hGl
theorem RdG.snoc {w' : World} {v' : Value} {l : List Rd} {G' : List Nat} {xs1 : List Value} {A4 : Option Addr} {p4 : Nat} {r : Rd} (hl : xs1.length = l.length * 4)
    (hc : ∀ k (h : k < l.length), xs1[k * 4]? = some (.int .i64 (kindR l[k])) ∧ xs1[k * 4 + 1]? = some (sv (keyR l[k])) ∧ xs1[k * 4 + 2]? = some (sv (valR l[k])) ∧ ∃ u, xs1[k * 4 + 3]? = some u ∧ w'.ownsRow 0 9 1 u (lstR l[k]).length (vs (lstR l[k])) ∧ ∀ g ∈ fp u, g ∈ G')
    (ho : w'.ownsRow 0 34 4 v' (l.length + 1) (xs1 ++ [.int .i64 (kindR r), sv (keyR r), sv (valR r), .slice A4 (lstR r).length p4])) (hv : ∀ g ∈ fp v', g ∈ G')
    (hu : w'.ownsRow 0 9 1 (.slice A4 (lstR r).length p4) (lstR r).length (vs (lstR r))) (hug : ∀ g ∈ fp (.slice A4 (lstR r).length p4), g ∈ G') : RdG w' v' (l ++ [r]) G' := by
  refine ⟨_, by rw [List.length_append, List.length_singleton]; exact ho, hv, fun k hk => ?_⟩
  by_cases hkl : k < l.length
  · rw [List.getElem_append_left hkl]
    obtain ⟨a, b, c, u, d, e⟩ := hc k hkl
    have hk4 : k * 4 + 3 < xs1.length := (List.getElem?_eq_some_iff.1 d).1
    rw [List.getElem?_append_left (by omega), List.getElem?_append_left (by omega), List.getElem?_append_left (by omega), List.getElem?_append_left (by omega)]
    exact ⟨a, b, c, u, d, e⟩
  · obtain rfl : k = l.length := by simp at hk; omega
    have e : (l ++ [r])[l.length] = r := by simp
    rw [e, List.getElem?_append_right (by omega), List.getElem?_append_right (by omega), List.getElem?_append_right (by omega), List.getElem?_append_right (by omega)]
    have h0 : l.length * 4 - xs1.length = 0 := by omega
    have h1 : l.length * 4 + 1 - xs1.length = 1 := by omega
    have h2 : l.length * 4 + 2 - xs1.length = 2 := by omega
    have h3 : l.length * 4 + 3 - xs1.length = 3 := by omega
    rw [h0, h1, h2, h3]
    exact ⟨rfl, rfl, rfl, _, rfl, hu, hug⟩
theorem rd_one {w : World} {l : List Rd} {xs : List Value} {G : List Nat} (hl : xs.length = l.length * 4)
    (hc : ∀ k (h : k < l.length), xs[k * 4]? = some (.int .i64 (kindR l[k])) ∧ xs[k * 4 + 1]? = some (sv (keyR l[k])) ∧ xs[k * 4 + 2]? = some (sv (valR l[k])) ∧ ∃ u, xs[k * 4 + 3]? = some u ∧ w.ownsRow 0 9 1 u (lstR l[k]).length (vs (lstR l[k])) ∧ ∀ g ∈ fp u, g ∈ G) : ∀ u ∈ xs, u.oneCell' = true := by
  intro u hu
  obtain ⟨j, hj, rfl⟩ := List.mem_iff_getElem.1 hu
  have hq : j / 4 < l.length := by omega
  obtain ⟨a, b, c, u, d, e, _⟩ := hc (j / 4) hq
  have hr : j % 4 < 4 := Nat.mod_lt _ (by omega)
  have hj4 : j = j / 4 * 4 + j % 4 := by omega
  have hx : ∀ v, xs[j]? = some v → xs[j] = v := fun v hv => by rw [List.getElem?_eq_getElem hj] at hv; injection hv
  rcases (by omega : j % 4 = 0 ∨ j % 4 = 1 ∨ j % 4 = 2 ∨ j % 4 = 3) with h | h | h | h
  · rw [hx _ (by rw [show j = j / 4 * 4 by omega]; exact a)]; rfl
  · rw [hx _ (by rw [show j = j / 4 * 4 + 1 by omega]; exact b)]; rfl
  · rw [hx _ (by rw [show j = j / 4 * 4 + 2 by omega]; exact c)]; rfl
  · rw [hx _ (by rw [show j = j / 4 * 4 + 3 by omega]; exact d)]
    obtain ⟨A, c', rfl, -, -, -⟩ := own_shape e
    rfl
set_option maxRecDepth 100000 in
set_option maxHeartbeats 6400000 in
theorem rNote_any {w : World} {d : Nat} {F G : List Nat} {C : St} (h : Rf w d F G C) (hr : Row0 C) (hl : C.length ≤ 1000000) {k : Nat} (hk : k < C.reverse.length) {x : One} (hi : C.reverse[k] = x) (hrl : x.rd.length ≤ 2000000) (r : Rd) (A4 : Option Addr) (p4 : Nat)
    (hu : w.ownsRow 0 9 1 (.slice A4 (lstR r).length p4) (lstR r).length (vs (lstR r))) (hug : ∀ g ∈ fp (.slice A4 (lstR r).length p4), g ∈ G) :
    Calls Tryz.prog 86 #[.pointer (some ⟨d, 0, none⟩), .int .i64 k, .agg #[.int .i64 (kindR r), sv (keyR r), sv (valR r), .slice A4 (lstR r).length p4]] w fun e w' => e = .returned (.tuple #[]) ∧ RTurn w w' d F G (upd C x.id (addRd r)) := by
  obtain ⟨A, cap, ms, h⟩ := h
  obtain ⟨g, rfl, c0, c1, c2, c3, c4⟩ := h.cellsX hk hi
  have f0 := h.b.cell 0
  have hx : x ∈ C := by rw [← hi]; exact List.mem_reverse.1 (List.getElem_mem hk)
  have ho := h.one _ hx
  obtain ⟨m, hm⟩ : ∃ m, ms x.id = m := ⟨_, rfl⟩
  rw [hm] at c2 c3 c4 ho
  obtain ⟨m1, m2, m3⟩ := m
  obtain ⟨A1, p1, hm1, -, -, -⟩ := own_shape ho.wr
  obtain ⟨xs1, hxs, hg1, hc1⟩ := ho.rd
  obtain ⟨A2, p2, hm2, -, -, -⟩ := own_shape hxs
  obtain ⟨A3, p3, hm3, -, -, -⟩ := own_shape ho.lg
  dsimp only at hm1 hm2 hm3 c2 c3 c4
  subst hm1 hm2 hm3
  have HR := Lib.hid h
  have HR0 := Lib.hid hr
  have HO := Lib.hid ho
  have HXS := Lib.hid hxs
  have HC1 := Lib.hid hc1
  have HG1 := Lib.hid hg1
  have HU := Lib.hid hu
  have HUG := Lib.hid hug
  have HI : Hid (∃ h : k < C.reverse.length, C.reverse[k] = x) := Lib.hid ⟨hk, hi⟩
  have HXL : Hid (xs1.length = x.rd.length * 4) := Lib.hid hxs.1
  have HX1 := Lib.hid (rd_one hxs.1 hc1)
  obtain ⟨n, hn⟩ : ∃ n, C.length = n := ⟨_, rfl⟩
  have hkn : k < n := by rw [← hn, ← List.length_reverse]; exact hk
  have i0 : (0 : Int) ≤ (k : Int) := by omega
  have i1 : (k : Int) < (n : Int) := by omega
  have HROW : Hid (w.ownsRow 0 68 5 (.slice (some ⟨g, 0, none⟩) n cap) n (rw (oc ms) C.reverse)) := Lib.hid (by rw [← hn]; exact h.row)
  rw [hn] at f0 hl
  have HN := Lib.hid hn
  obtain ⟨zi, hzi⟩ : ∃ z, x.id = z := ⟨_, rfl⟩
  obtain ⟨zp, hzp⟩ : ∃ z, x.par = z := ⟨_, rfl⟩
  obtain ⟨n1, hn1⟩ : ∃ z, x.wr.length = z := ⟨_, rfl⟩
  obtain ⟨n2, hn2⟩ : ∃ z, x.rd.length = z := ⟨_, rfl⟩
  obtain ⟨n3, hn3⟩ : ∃ z, x.lg.length = z := ⟨_, rfl⟩
  obtain ⟨n4, hn4⟩ : ∃ z, (lstR r).length = z := ⟨_, rfl⟩
  rw [hzi] at c0
  rw [hzp] at c1
  rw [hn1] at c2
  rw [hn2] at c3 hrl HXS
  rw [hn3] at c4
  have HZI := Lib.hid hzi
  have HZP := Lib.hid hzp
  have HN1 := Lib.hid hn1
  have HN2 := Lib.hid hn2
  have HN3 := Lib.hid hn3
  have HN4 := Lib.hid hn4
  rw [hn4]
  obtain ⟨kd, hkd⟩ : ∃ z, kindR r = z := ⟨_, rfl⟩
  obtain ⟨ky, hky⟩ : ∃ z, keyR r = z := ⟨_, rfl⟩
  obtain ⟨vl, hvl⟩ : ∃ z, valR r = z := ⟨_, rfl⟩
  rw [hkd, hky, hvl]
  have HKD := Lib.hid hkd
  have HKY := Lib.hid hky
  have HVL := Lib.hid hvl
  have hdl := cell_lt f0
  have hgl := cell_lt c0
  clear h hr hk hi hu hug hx ho hm hxs hg1 hc1 hn hzi hzp hn1 hn2 hn3 hn4 hkd hky hvl
  go_enter Tryz.func86, Tryz.ntmps86
  go_upto_region 2 with fail
  obtain ⟨q, hq⟩ : ∃ q, w.heap.size = q := ⟨_, rfl⟩
  obtain ⟨Wa, hWa⟩ : ∃ W, w.alloc (.cells #[.int .i64 kd, sv ky, sv vl, .slice A4 n4 p4] 34) = W := ⟨_, rfl⟩
  have hqa : Wa.heap.size = q + 1 := by rw [← hWa, ← hq]; simp
  have ka : Keeps [] w Wa := by rw [← hWa]; exact (Keeps.refl _ _).alloc _
  have bq : Blk Wa q 34 #[.int .i64 kd, sv ky, sv vl, .slice A4 n4 p4] := by rw [← hWa, ← hq]; exact Blk.new _ _ _
  obtain ⟨W, hW⟩ : ∃ W, Wa.alloc (.cells #[.int .i64 zi, .int .i64 zp, .slice A1 n1 p1, .slice A2 n2 p2, .slice A3 n3 p3] 68) = W := ⟨_, rfl⟩
  have kb : Keeps [] w W := by rw [← hW]; exact ka.alloc _
  have bb : Blk W (q + 1) 68 #[.int .i64 zi, .int .i64 zp, .slice A1 n1 p1, .slice A2 n2 p2, .slice A3 n3 p3] := by rw [← hW, ← hqa]; exact Blk.new _ _ _
  have bq2 : Blk W q 34 #[.int .i64 kd, sv ky, sv vl, .slice A4 n4 p4] := by rw [← hW]; exact bq.keep ((Keeps.refl [] Wa).alloc _) (by simp)
  rw [hq, hWa, hW]
  have KB := Lib.hid kb
  have BB := Lib.hid bb
  have BQ := Lib.hid bq2
  have hwq : w.heap.size = q := hq
  clear hq hWa hW hqa ka bq kb bb bq2 c0 c1 c2 c3 c4
  refine nt2_any W (q + 1) q n2 p2 (0 + n2 + 1) n4 p4 A2 A4 xs1 kd ky vl _ hrl rfl ?_ ?_ ?_ HX1.out _ _ _ _ _ _ _ _ _ _ _ _ _ _ _ _ _ _ _ _ _ _ _ _ _ _ _ ?_
  · intro W' hk
    have b1 := BB.out.keep hk (by simp)
    have b2 := BQ.out.keep hk (by simp)
    exact ⟨b1.cell 3, b2.cell 0, b2.cell 1, b2.cell 2, b2.cell 3⟩
  · intro W' hk
    exact (BB.out.keep hk (by simp)).frozen 3
  · intro W' hk
    exact reads_own (own_keep HXS.out (KB.out.trans hk (by simp)) (by simp))
  intro v14 v15 v16 v17 v18 v19 v20 v21 v3 W1 o1 k1 f1
  obtain ⟨A5, p5, rfl, -, -, -⟩ := own_shape o1
  have O1 := Lib.hid o1
  have F1 := Lib.hid f1
  have K1 := Lib.hid k1
  have B1 := Lib.hid ((BB.out.keep k1 (by simp)).set_ 3 (.slice A5 (0 + n2 + 1) p5))
  obtain ⟨W2, hW2⟩ : ∃ W2, W1.setCell ⟨q + 1, 3, none⟩ (.slice A5 (0 + n2 + 1) p5) = W2 := ⟨_, rfl⟩
  have k2 : Keeps [q + 1] W W2 := by rw [← hW2]; exact (k1.mono (by simp)).setCell (by simp) _
  rw [hW2] at B1
  have O2 : Hid (W2.ownsRow 0 34 4 (.slice A5 (0 + n2 + 1) p5) (0 + n2 + 1) ([] ++ xs1 ++ [.int .i64 kd, sv ky, sv vl, .slice A4 n4 p4])) := Lib.hid (by rw [← hW2]; exact own_far o1 (fun h' => by have h1 : W.heap.size ≤ q + 1 := f1 _ h'; have := BB.out.lt; omega) _)
  rw [hW2]
  have K2 := Lib.hid k2
  have K2w : Hid (Keeps [] w W2) := Lib.hid (KB.out.trans k2 (fun g hg => .inr (by rw [List.mem_singleton.1 hg]; omega)))
  clear hW2 o1 f1 k1 k2 K1 BB O1
  go_upto_region 3 with fail
  refine nt3_any W2 d (q + 1) g n cap k n1 (0 + n2 + 1) n3 p1 p5 p3 A1 A5 A3 zi zp (rw (oc ms) C.reverse) _ ?_ ?_ hkn i0 i1 _ _ _ _ _ _ _ _ _ _ _ _ _ _ _ _ _ _ _ _ _ _ _ _ _ _ ?_
  · intro W' hk
    have b1 := B1.out.keep hk (by simp)
    exact ⟨((K2w.out.trans hk (by simp)).cell (p := ⟨d, _, none⟩) hdl (by simp)).trans f0, b1.cell 0, b1.cell 1, b1.cell 2, b1.cell 3, b1.cell 4⟩
  · intro W' hk
    exact own_keep HROW.out (K2w.out.trans hk (by simp)) (by simp)
  intro v22 v23 v24 v25 v26 v27 v28 w5 W3 k5 o6 k6
  have K5 := Lib.hid k5
  have O6 := Lib.hid o6
  have K6 := Lib.hid k6
  clear k5 o6 k6 f0 i0 i1
  go_wp2_with fail
  go_end0
  refine ⟨rfl, ?_⟩
  have hn := HN.out
  subst hn
  obtain ⟨hk, hi⟩ := HI.out
  have kw5 : Keeps [] w w5 := K2w.out.trans K5.out (by simp)
  have kg : Keeps [g] w W3 := (kw5.mono (by simp)).trans K6.out (by simp)
  have hgF : g ∈ F := HR.out.rF g (by simp [fp, Value.ownBlock])
  have hgG : g ∉ G := fun h' => HR.out.off g h' hgF
  have e2 : 0 + n2 + 1 = x.rd.length + 1 := by rw [HN2.out]; omega
  have o5 : w5.ownsRow 0 34 4 (.slice A5 (0 + n2 + 1) p5) (0 + n2 + 1) ([] ++ xs1 ++ [.int .i64 kd, sv ky, sv vl, .slice A4 n4 p4]) := own_keep O2.out K5.out (by simp)
  have hA5 : ∀ g' ∈ fp (.slice A5 (0 + n2 + 1) p5), w.heap.size ≤ g' := fun g' hg => by have := F1.out g' hg; have := KB.out.size; omega
  have o7 : W3.ownsRow 0 34 4 (.slice A5 (0 + n2 + 1) p5) (0 + n2 + 1) ([] ++ xs1 ++ [.int .i64 kd, sv ky, sv vl, .slice A4 n4 p4]) := own_keep o5 K6.out (fun g' hg h' => by
    rw [List.mem_singleton.1 h'] at hg
    have := hA5 g hg
    omega)
  have hfar : ∀ {s : List Nat}, (∀ g' ∈ s, g' ∈ G) → ∀ g' ∈ s, g' ∉ [g] := fun hs g' hg h' => by rw [List.mem_singleton.1 h'] at hg; exact hgG (hs _ hg)
  refine HR.out.turnX (G' := fp (.slice A5 (0 + n2 + 1) p5) ++ G) HR0.out hk hi (addRd r) (fun _ => rfl) (fun _ => rfl) kg (.slice A1 n1 p1) (.slice A5 (0 + n2 + 1) p5) (.slice A3 n3 p3) ?_ ⟨?_, ?_, ?_, ?_, ?_⟩ (fun g hg => List.mem_append_right _ hg) (fun g' hg => ?_) (fun g' hg => ?_)
  · rw [HZI.out, HZP.out]; exact O6.out
  · have := own_keep HO.out.wr kg (hfar HO.out.gw)
    rw [HN1.out] at this
    show W3.ownsRow 0 88 2 (.slice A1 n1 p1) x.wr.length _
    rw [HN1.out]; exact this
  · show RdG W3 (.slice A5 (0 + n2 + 1) p5) (x.rd ++ [r]) _
    refine RdG.snoc (xs1 := xs1) (A4 := A4) (p4 := p4) HXL.out (fun j hj => ?_) ?_ (fun g hg => List.mem_append_left _ hg) (own_keep HU.out kg (hfar HUG.out)) (fun g hg => List.mem_append_right _ (HUG.out g hg))
    · obtain ⟨a, b, c, u, e, o, s⟩ := HC1.out j hj
      exact ⟨a, b, c, u, e, own_keep o kg (hfar s), fun g hg => List.mem_append_right _ (s g hg)⟩
    · rw [← e2, HKD.out, HKY.out, HVL.out, HN4.out]
      exact o7
  · have := own_keep HO.out.lg kg (hfar HO.out.gl)
    rw [HN3.out] at this
    show W3.ownsRow 0 96 2 (.slice A3 n3 p3) x.lg.length _
    rw [HN3.out]; exact this
  · intro g' hg
    refine List.mem_append_right _ (HO.out.gw g' ?_)
    show g' ∈ fp (.slice A1 x.wr.length p1)
    rw [HN1.out]
    exact hg
  · intro g' hg
    refine List.mem_append_right _ (HO.out.gl g' ?_)
    show g' ∈ fp (.slice A3 x.lg.length p3)
    rw [HN3.out]
    exact hg
  · rcases List.mem_append.1 hg with h' | h'
    · exact .inr (hA5 g' h')
    · exact .inl h'
  · rcases List.mem_append.1 hg with h' | h'
    · exact own_lt o7 h'
    · exact Nat.lt_of_lt_of_le (HR.out.ltG g' h') kg.size
end Go.Proofs.YtbllmpcpfmlemaaGreat
namespace Go.Proofs.YtbllmpcpfmlemaaGreat
open Go.RowKit
theorem Row0.at_ {C : St} (h : Row0 C) {i : Int} {x : One} {j : Nat} (hf : Proofs.YtbllmpcpfmlemaaGreat.find C i = some x) (hp : plc C i = (j : Nat)) : ∃ hk : j < C.reverse.length, C.reverse[j] = x := by
  have hh : has C i = true := by rw [← find_has, hf]; rfl
  obtain ⟨k, hk, _, h2, h3⟩ := h.find hh
  obtain rfl : k = j := by rw [h2] at hp; omega
  rw [hf] at h3
  injection h3 with h3
  exact ⟨hk, h3.symm⟩
theorem RTurn.same0 {w w' : World} {d : Nat} {F G : List Nat} {C D : St} (h : Rf w d F G C) (hk : Keeps [] w w') (e : D = C) : RTurn w w' d F G D := by
  subst e
  exact RTurn.same h hk
theorem Rf.addG {w : World} {d : Nat} {F G U : List Nat} {C : St} (h : Rf w d F G C) (hl : ∀ g ∈ U, g < w.heap.size) (hU : ∀ g ∈ U, g ∉ F) : Rf w d F (U ++ G) C := by
  obtain ⟨A, cap, ms, h⟩ := h
  exact ⟨A, cap, ms, h.b, h.row, fun x hx => (h.one x hx).mono (fun g hg => List.mem_append_right _ hg), h.dF, h.rF, h.ltF, fun g hg => (List.mem_append.1 hg).elim (hl g) (h.ltG g), fun g hg => (List.mem_append.1 hg).elim (hU g) (h.off g)⟩
theorem Rf.ltF {w : World} {d : Nat} {F G : List Nat} {C : St} (h : Rf w d F G C) : ∀ g ∈ F, g < w.heap.size := by obtain ⟨_, _, _, h⟩ := h; exact h.ltF
theorem Rf.ltG {w : World} {d : Nat} {F G : List Nat} {C : St} (h : Rf w d F G C) : ∀ g ∈ G, g < w.heap.size := by obtain ⟨_, _, _, h⟩ := h; exact h.ltG
theorem RTurn.from_ {w0 w w' : World} {d : Nat} {F G G1 : List Nat} {C : St} (h : RTurn w w' d F G1 C) (hk : Keeps [] w0 w) (hG : ∀ g ∈ G1, g ∈ G ∨ w0.heap.size ≤ g) : RTurn w0 w' d F G C := by
  obtain ⟨F', G', h1, h2, h3, h4⟩ := h
  have := hk.size
  exact ⟨F', G', h1, fun g hg => (h2 g hg).imp id (fun h => by omega), fun g hg => (h3 g hg).elim (hG g) (fun h => .inr (by omega)), (hk.mono (by simp)).trans h4 (fun g hg => .inl hg)⟩
set_option maxRecDepth 100000 in
set_option maxHeartbeats 3200000 in
theorem rAsk_any {P : List Str} {w : World} {d : Nat} {F G : List Nat} {C : St} (h : Rf w d F G C) (hW : WF P C) (hP : PoolOk P) (hl : C.length ≤ 1000000) (i : Int) (k : Str) :
    Calls Tryz.prog 84 #[.pointer (some ⟨d, 0, none⟩), .int .i64 i, sv k] w fun e w' => e = .returned (.tuple #[]) ∧ RTurn w w' d F G (askP C i k) := by
  cases hh : has C i with
  | false =>
    have e0 : askP C i k = C := by unfold askP; rw [find_none.2 hh]
    have CP := Lib.hid (place_any h hl i)
    rw [plc_no hh] at CP
    have HR := Lib.hid (RTurn.same0 h (Keeps.refl _ _) e0)
    clear h hh e0
    go_enter Tryz.func84, Tryz.ntmps84
    go_wp2_with fail
    refine CP.out.mono ?_
    rintro e w1 ⟨rfl, rfl⟩
    go_wp2_with fail
    refine bodyPost_ret (results_none rfl _ _ _) rfl ?_
    exact ⟨rfl, HR.out⟩
  | true =>
    have hR0 := hW.tree.row0
    obtain ⟨x, j, g, n, cap, A1, A2, A3, p1, p2, p3, hf, hx, rfl, hp, hj, hn, hz, hpl⟩ := h.open_ hR0 hh
    have CP := Lib.hid (place_any h hl x.id)
    rw [hp] at CP
    have hok := hW.ok x hx
    have hwl : x.wr.length ≤ 1000000 := hP.leK hok.wr hok.wp
    have hrl : x.rd.length ≤ 2000000 := rd_le hW hP hx
    have e0 : askP C x.id k = if opn x k then upd C x.id (addRd (.cell k (sees C x.par k))) else C := by unfold askP; rw [hf]
    have hnl : n ≤ 1000000 := by omega
    have HAT := Lib.hid (hR0.at_ hf hp)
    by_cases h0 : x.id = 0
    · have hj0 : j = 0 := hz.2 h0
      have e1 : askP C x.id k = C := by rw [e0, if_neg (by simp [opn, h0])]
      have HR := Lib.hid (RTurn.same0 h (Keeps.refl _ _) e1)
      subst hj0
      clear h hh e0 e1 hf hx hp hj hn hz hpl hok h0 hR0 HAT
      go_enter Tryz.func84, Tryz.ntmps84
      go_wp2_with fail
      refine CP.out.mono ?_
      rintro e w1 ⟨rfl, rfl⟩
      go_wp2_with fail
      refine bodyPost_ret (results_none rfl _ _ _) rfl ?_
      exact ⟨rfl, HR.out⟩
    · have i0 : ¬ ((j : Int) ≤ 0) := by
        intro h1
        exact h0 (hz.1 (by omega))
      have i2 : (0 : Int) ≤ (j : Int) := by omega
      have i3 : (j : Int) < (n : Int) := by omega
      have HPL := Lib.hid hpl
      have HR := Lib.hid h
      have CW := Lib.hid (wrote_any hpl.o hwl k)
      have E0 := Lib.hid e0
      have H0 := Lib.hid h0
      obtain ⟨f0, c0, c1, c2, c3, c4, -, -, -⟩ := hpl
      clear h hh e0 hf hx hp hj hn hz hok h0
      go_enter Tryz.func84, Tryz.ntmps84
      go_wp2_with fail
      refine CP.out.mono ?_
      rintro e w1 ⟨rfl, rfl⟩
      clear CP
      go_wp2_with fail
      cases hmg : mget x.wr k with
      | some v =>
        rw [hmg] at CW
        have e1 : askP C x.id k = C := by rw [E0.out, if_neg (by simp [opn, hmg])]
        have E1 := Lib.hid e1
        clear hmg e1 E0
        refine CW.out.mono ?_
        rintro e w2 ⟨rfl, k2⟩
        have HR2 := Lib.hid (RTurn.same0 HR.out k2 E1.out)
        clear k2
        go_wp2_with fail
        refine bodyPost_ret (results_none rfl _ _ _) rfl ?_
        exact ⟨rfl, HR2.out⟩
      | none =>
        rw [hmg] at CW
        have HMG := Lib.hid hmg
        clear hmg
        refine CW.out.mono ?_
        rintro e w2 ⟨rfl, k2⟩
        have HPL2 := Lib.hid (HPL.out.keep0 k2)
        have K2 := Lib.hid k2
        have HR2 := Lib.hid (HR.out.keep0 k2)
        have CR := Lib.hid (read_any HPL2.out.o hrl 0 k)
        clear k2 CW HPL f0 c0 c1 c2 c3 c4
        obtain ⟨f0, c0, c1, c2, c3, c4, -, -, -⟩ := HPL2.out
        rcases rdIx_cell k x.rd with ⟨h1, h2⟩ | ⟨q, hq, h1, h2⟩
        · rw [h2] at CR
          have e1 : askP C x.id k = upd C x.id (addRd (.cell k (sees C x.par k))) := by rw [E0.out, if_pos (by simp [opn, HMG.out, h1, H0.out])]
          have E1 := Lib.hid e1
          clear e1 E0 HMG h1 h2
          go_wp2_with fail
          refine CR.out.mono ?_
          rintro e w3 ⟨rfl, k3⟩
          have HPL3 := Lib.hid (HPL2.out.keep0 k3)
          have HR3 := Lib.hid (HR2.out.keep0 k3)
          have K3 := Lib.hid (K2.out.trans k3 (by simp))
          clear k3 CR HPL2 f0 c0 c1 c2 c3 c4 HR2 K2
          obtain ⟨f0, c0, c1, c2, c3, c4, -, -, -⟩ := HPL3.out
          go_wp2_with fail
          refine (rSees hW hP hl HR3.out x.par k).mono ?_
          rintro e w4 ⟨rfl, k4⟩
          have HR4 := Lib.hid (HR3.out.keep0 k4)
          have K4 := Lib.hid (K3.out.trans k4 (by simp))
          clear k4 f0 c0 c1 c2 c3 c4 HPL3 HR3 K3
          obtain ⟨hk, hxx⟩ := HAT.out
          have CN := Lib.hid (rNote_any HR4.out hR0 hl hk hxx hrl (.cell k (sees C x.par k)) none 0 (World.ownsRow_nil _ _ _ _) (by simp))
          clear hk hxx
          go_wp2_with fail
          refine CN.out.mono ?_
          rintro e w5 ⟨rfl, ht⟩
          have HT := Lib.hid (ht.after K4.out)
          rw [← E1.out] at HT
          clear ht
          go_wp2_with fail
          go_end0
          exact ⟨rfl, HT.out⟩
        · rw [h1] at CR
          have e1 : askP C x.id k = C := by rw [E0.out, if_neg (by simp [opn, h2])]
          have HR3 := Lib.hid (RTurn.same0 HR.out K2.out e1)
          clear e1 E0 HMG h1 h2
          have j0 : (0 : Int) ≤ (q : Int) := by omega
          go_wp2_with fail
          refine CR.out.mono ?_
          rintro e w3 ⟨rfl, k3⟩
          have HR4 := Lib.hid (HR3.out.before k3)
          clear k3
          go_wp2_with fail
          refine bodyPost_ret (results_none rfl _ _ _) rfl ?_
          exact ⟨rfl, HR4.out⟩
set_option maxRecDepth 100000 in
set_option maxHeartbeats 3200000 in
theorem rAskKeys_any {P : List Str} {w : World} {d : Nat} {F G : List Nat} {C : St} (h : Rf w d F G C) (hW : WF P C) (hP : PoolOk P) (hl : C.length ≤ 1000000) (i : Int) (k : Str) :
    Calls Tryz.prog 82 #[.pointer (some ⟨d, 0, none⟩), .int .i64 i, sv k] w fun e w' => e = .returned (.tuple #[]) ∧ RTurn w w' d F G (askKP C i k) := by
  cases hh : has C i with
  | false =>
    have e0 : askKP C i k = C := by unfold askKP; rw [find_none.2 hh]
    have CP := Lib.hid (place_any h hl i)
    rw [plc_no hh] at CP
    have HR := Lib.hid (RTurn.same0 h (Keeps.refl _ _) e0)
    clear h hh e0
    go_enter Tryz.func82, Tryz.ntmps82
    go_wp2_with fail
    refine CP.out.mono ?_
    rintro e w1 ⟨rfl, rfl⟩
    go_wp2_with fail
    refine bodyPost_ret (results_none rfl _ _ _) rfl ?_
    exact ⟨rfl, HR.out⟩
  | true =>
    have hR0 := hW.tree.row0
    obtain ⟨x, j, g, n, cap, A1, A2, A3, p1, p2, p3, hf, hx, rfl, hp, hj, hn, hz, hpl⟩ := h.open_ hR0 hh
    have CP := Lib.hid (place_any h hl x.id)
    rw [hp] at CP
    have hok := hW.ok x hx
    have hrl : x.rd.length ≤ 2000000 := rd_le hW hP hx
    have e0 : askKP C x.id k = if x.id ≠ 0 ∧ keysOf x.rd k = none then upd C x.id (addRd (.keys k (seesKeys C x.par k))) else C := by unfold askKP; rw [hf]
    have hnl : n ≤ 1000000 := by omega
    have HAT := Lib.hid (hR0.at_ hf hp)
    by_cases h0 : x.id = 0
    · have hj0 : j = 0 := hz.2 h0
      have e1 : askKP C x.id k = C := by rw [e0, if_neg (by simp [h0])]
      have HR := Lib.hid (RTurn.same0 h (Keeps.refl _ _) e1)
      subst hj0
      clear h hh e0 e1 hf hx hp hj hn hz hpl hok h0 hR0 HAT
      go_enter Tryz.func82, Tryz.ntmps82
      go_wp2_with fail
      refine CP.out.mono ?_
      rintro e w1 ⟨rfl, rfl⟩
      go_wp2_with fail
      refine bodyPost_ret (results_none rfl _ _ _) rfl ?_
      exact ⟨rfl, HR.out⟩
    · have i0 : ¬ ((j : Int) ≤ 0) := by
        intro h1
        exact h0 (hz.1 (by omega))
      have i2 : (0 : Int) ≤ (j : Int) := by omega
      have i3 : (j : Int) < (n : Int) := by omega
      have im : max (j : Int) 0 = (j : Int) := by omega
      have HPL := Lib.hid hpl
      have HR := Lib.hid h
      have CR := Lib.hid (read_any hpl.o hrl 1 k)
      have E0 := Lib.hid e0
      have H0 := Lib.hid h0
      obtain ⟨f0, c0, c1, c2, c3, c4, -, -, -⟩ := hpl
      clear h hh e0 hf hx hp hj hn hz hok h0
      go_enter Tryz.func82, Tryz.ntmps82
      go_wp2_with fail
      refine CP.out.mono ?_
      rintro e w1 ⟨rfl, rfl⟩
      clear CP
      go_wp2_with fail
      rcases rdIx_keys k x.rd with ⟨h1, h2⟩ | ⟨q, hq, h1, h2⟩
      · rw [h2] at CR
        have e1 : askKP C x.id k = upd C x.id (addRd (.keys k (seesKeys C x.par k))) := by rw [E0.out, if_pos ⟨H0.out, h1⟩]
        have E1 := Lib.hid e1
        clear e1 E0 h1 h2
        refine CR.out.mono ?_
        rintro e w3 ⟨rfl, k3⟩
        have HPL3 := Lib.hid (HPL.out.keep0 k3)
        have HR3 := Lib.hid (HR.out.keep0 k3)
        have K3 := Lib.hid k3
        clear k3 CR HPL f0 c0 c1 c2 c3 c4 HR
        obtain ⟨f0, c0, c1, c2, c3, c4, -, -, -⟩ := HPL3.out
        go_wp2_with fail
        refine (rSeesKeys hW hP hl HR3.out x.par k).mono ?_
        rintro e w4 ⟨⟨v, rfl, o4, f4⟩, k4⟩
        obtain ⟨A4, p4, rfl, -, -, -⟩ := own_shape o4
        have K4 := Lib.hid (K3.out.trans k4 (by simp))
        have HR4 : Hid (Rf w4 d F (fp (.slice A4 (seesKeys C x.par k).length p4) ++ G) C) := Lib.hid ((HR3.out.keep0 k4).addG (own_lts o4) (fun g hg h' => by have := HR3.out.ltF g h'; have := f4 g hg; omega))
        have HO4 := Lib.hid o4
        have HF4 : Hid (∀ g ∈ fp (.slice A4 (seesKeys C x.par k).length p4), w1.heap.size ≤ g) := Lib.hid (fun g hg => Nat.le_trans K3.out.size (f4 g hg))
        clear k4 o4 f4 f0 c0 c1 c2 c3 c4 HPL3 HR3 K3
        obtain ⟨hk, hxx⟩ := HAT.out
        have CN := Lib.hid (rNote_any HR4.out hR0 hl hk hxx hrl (.keys k (seesKeys C x.par k)) A4 p4 HO4.out (fun g hg => List.mem_append_left _ hg))
        clear hk hxx
        go_wp2_with fail
        refine CN.out.mono ?_
        rintro e w5 ⟨rfl, ht⟩
        have HT := Lib.hid (ht.from_ K4.out (fun g hg => (List.mem_append.1 hg).elim (fun h => .inr (HF4.out g h)) .inl))
        rw [← E1.out] at HT
        clear ht
        go_wp2_with fail
        go_end0
        exact ⟨rfl, HT.out⟩
      · rw [h1] at CR
        have e1 : askKP C x.id k = C := by rw [E0.out, if_neg (by simp [h2])]
        have HR3 := Lib.hid (RTurn.same0 HR.out (Keeps.refl _ _) e1)
        clear e1 E0 h1 h2
        have j0 : (0 : Int) ≤ (q : Int) := by omega
        refine CR.out.mono ?_
        rintro e w3 ⟨rfl, k3⟩
        have HR4 := Lib.hid (HR3.out.before k3)
        clear k3
        go_wp2_with fail
        refine bodyPost_ret (results_none rfl _ _ _) rfl ?_
        exact ⟨rfl, HR4.out⟩
set_option maxRecDepth 100000 in
set_option maxHeartbeats 1600000 in
theorem rGet_any {P : List Str} {w : World} {d : Nat} {F G : List Nat} {C : St} (h : Rf w d F G C) (hW : WF P C) (hP : PoolOk P) (hl : C.length ≤ 1000000) (i : Int) (k : Str) (hk : k ∈ P) :
    Calls Tryz.prog 54 #[.pointer (some ⟨d, 0, none⟩), .int .i64 i, sv k] w fun e w' => e = .returned (sv (sees (askP C i k) i k)) ∧ RTurn w w' d F G (askP C i k) := by
  have CA := Lib.hid (rAsk_any h hW hP hl i k)
  have CS := fun (w : World) (F G : List Nat) (h' : Rf w d F G (askP C i k)) => rSees (hW.ask i hk) hP (by rw [len_ask]; exact hl) h' i k
  have CS := Lib.hid CS
  obtain ⟨E, hE⟩ : ∃ E, askP C i k = E := ⟨_, rfl⟩
  rw [hE] at CA CS ⊢
  clear h hE
  go_enter Tryz.func54, Tryz.ntmps54
  go_wp2_with fail
  refine CA.out.mono ?_
  rintro e w1 ⟨rfl, F1, G1, h1, h2, h3, h4⟩
  have HR := Lib.hid h1
  have HT : Hid (RTurn w w1 d F G E) := Lib.hid ⟨F1, G1, h1, h2, h3, h4⟩
  clear h1 h2 h3 h4
  go_wp2_with fail
  refine (CS.out w1 F1 G1 HR.out).mono ?_
  rintro e w2 ⟨rfl, k2⟩
  have HT2 := Lib.hid (HT.out.before k2)
  clear k2
  go_wp2_with fail
  go_ret
  exact ⟨rfl, HT2.out⟩
set_option maxRecDepth 100000 in
set_option maxHeartbeats 1600000 in
theorem rKeys_any {P : List Str} {w : World} {d : Nat} {F G : List Nat} {C : St} (h : Rf w d F G C) (hW : WF P C) (hP : PoolOk P) (hl : C.length ≤ 1000000) (i : Int) (k : Str) (hk : k ∈ P) :
    Calls Tryz.prog 47 #[.pointer (some ⟨d, 0, none⟩), .int .i64 i, sv k] w fun e w' => (∃ v, e = .returned v ∧ w'.ownsRow 0 9 1 v (seesKeys (askKP C i k) i k).length (vs (seesKeys (askKP C i k) i k))) ∧ RTurn w w' d F G (askKP C i k) := by
  have CA := Lib.hid (rAskKeys_any h hW hP hl i k)
  have CS := fun (w : World) (F G : List Nat) (h' : Rf w d F G (askKP C i k)) => rSeesKeys (hW.askK i hk) hP (by rw [len_askK]; exact hl) h' i k
  have CS := Lib.hid CS
  obtain ⟨E, hE⟩ : ∃ E, askKP C i k = E := ⟨_, rfl⟩
  rw [hE] at CA CS ⊢
  clear h hE
  go_enter Tryz.func47, Tryz.ntmps47
  go_wp2_with fail
  refine CA.out.mono ?_
  rintro e w1 ⟨rfl, F1, G1, h1, h2, h3, h4⟩
  have HR := Lib.hid h1
  have HT : Hid (RTurn w w1 d F G E) := Lib.hid ⟨F1, G1, h1, h2, h3, h4⟩
  clear h1 h2 h3 h4
  go_wp2_with fail
  refine (CS.out w1 F1 G1 HR.out).mono ?_
  rintro e w2 ⟨⟨v, rfl, o2, -⟩, k2⟩
  have HT2 := Lib.hid (HT.out.before k2)
  have HO := Lib.hid o2
  clear k2 o2
  go_wp2_with fail
  go_ret
  exact ⟨⟨_, rfl, HO.out⟩, HT2.out⟩
end Go.Proofs.YtbllmpcpfmlemaaGreat
namespace Go.Proofs.YtbllmpcpfmlemaaGreat
open Go.RowKit
section
variable {α : Type}
/-- The place in a sorted map. -/
structure Spot (m : List (Str × α)) (k : Str) (q : Nat) : Prop where
  le : q ≤ m.length
  lt : ∀ j (h : j < m.length), j < q → m[j].1 < k
  ex : ∀ h : q < m.length, ¬ m[q].1 < k
theorem Spot.tail {a : Str} {u : α} {r : List (Str × α)} {k : Str} {q : Nat} (h : Spot ((a, u) :: r) k (q + 1)) : a < k ∧ Spot r k q :=
  ⟨h.lt 0 (by simp) (by omega), by have := h.le; simpa using this, fun j hj hq => h.lt (j + 1) (by simpa using hj) (by omega), fun hq => h.ex (by simpa using hq)⟩
theorem mput_ne {m : List (Str × α)} {k : Str} {q : Nat} (h : Spot m k q) (v : α) (hne : ∀ h : q < m.length, m[q].1 ≠ k) : mput m k v = m.take q ++ (k, v) :: m.drop q := by
  induction m generalizing q with
  | nil => simp [mput]
  | cons e r ih =>
    obtain ⟨a, u⟩ := e
    cases q with
    | zero =>
      have h1 := h.ex (by simp)
      have h2 := hne (by simp)
      rw [mput, if_neg (show ¬ a < k from h1), if_neg (show ¬ a = k from h2)]
      rfl
    | succ q =>
      obtain ⟨h1, h2⟩ := h.tail
      rw [mput, if_pos h1, ih h2 (fun hq => hne (by simpa using hq))]
      rfl
theorem mput_eq {m : List (Str × α)} {k : Str} {q : Nat} (h : Spot m k q) (v : α) (hq : q < m.length) (he : m[q].1 = k) : mput m k v = m.take q ++ (k, v) :: m.drop (q + 1) := by
  induction m generalizing q with
  | nil => simp at hq
  | cons e r ih =>
    obtain ⟨a, u⟩ := e
    cases q with
    | zero =>
      have h1 := h.ex (by simp)
      rw [mput, if_neg (show ¬ a < k from h1), if_pos (show a = k from he)]
      rfl
    | succ q =>
      obtain ⟨h1, h2⟩ := h.tail
      rw [mput, if_pos h1, ih h2 (by simpa using hq) he]
      rfl
theorem mget_ne {m : List (Str × α)} {k : Str} {q : Nat} (hm : AscK m) (h : Spot m k q) (hne : ∀ h : q < m.length, m[q].1 ≠ k) : mget m k = none := by
  induction m generalizing q with
  | nil => rfl
  | cons e r ih =>
    obtain ⟨a, u⟩ := e
    obtain ⟨h3, h4⟩ := ascK_cons.1 hm
    cases q with
    | zero =>
      have h1 : ¬ a < k := h.ex (by simp)
      have h2 : a ≠ k := hne (by simp)
      have hka : k < a := by
        rcases str_tri a k with h | h | h
        · exact absurd h h1
        · exact absurd h h2
        · exact h
      rw [mget_none]
      intro hk
      rcases List.mem_cons.1 hk with e | hk
      · exact h2 e.symm
      · obtain ⟨e, he, rfl⟩ := List.mem_map.1 hk
        exact str_asymm hka (h3 e he)
    | succ q =>
      obtain ⟨h1, h2⟩ := h.tail
      rw [mget, if_neg (str_ne h1)]
      exact ih h4 h2 (fun hq => hne (by simpa using hq))
theorem mget_eq {m : List (Str × α)} {k : Str} {q : Nat} (h : Spot m k q) (hq : q < m.length) (he : m[q].1 = k) : mget m k = some m[q].2 := by
  induction m generalizing q with
  | nil => simp at hq
  | cons e r ih =>
    obtain ⟨a, u⟩ := e
    cases q with
    | zero => rw [mget, if_pos (show a = k from he)]; rfl
    | succ q =>
      obtain ⟨h1, h2⟩ := h.tail
      rw [mget, if_neg (str_ne h1)]
      exact ih h2 (by simpa using hq) he
theorem mdel_no {m : List (Str × α)} {k : Str} (h : mget m k = none) : mdel m k = m := by
  unfold mdel
  rw [List.filter_eq_self]
  intro e he
  rw [decide_eq_true_eq]
  rintro rfl
  rw [mget_none] at h
  exact h (List.mem_map.2 ⟨e, he, rfl⟩)
theorem mdel_eq {m : List (Str × α)} {k : Str} {q : Nat} (hm : AscK m) (h : Spot m k q) (hq : q < m.length) (he : m[q].1 = k) : mdel m k = m.take q ++ m.drop (q + 1) := by
  induction m generalizing q with
  | nil => simp at hq
  | cons e r ih =>
    obtain ⟨a, u⟩ := e
    obtain ⟨h3, h4⟩ := ascK_cons.1 hm
    cases q with
    | zero =>
      have ha : a = k := he
      subst ha
      have hr : mget r a = none := by
        rw [mget_none]
        intro hk
        obtain ⟨e, he, e2⟩ := List.mem_map.1 hk
        exact str_ne (h3 e he) e2.symm
      have := mdel_no hr
      unfold mdel at this ⊢
      rw [List.filter_cons_of_neg (by simp), this]
      rfl
    | succ q =>
      obtain ⟨h1, h2⟩ := h.tail
      have := ih h4 h2 (by simpa using hq) he
      unfold mdel at this ⊢
      rw [List.filter_cons_of_pos (by simp [str_ne h1]), this]
      rfl
theorem mdel_ne {m : List (Str × α)} {k : Str} {q : Nat} (hm : AscK m) (h : Spot m k q) (hne : ∀ h : q < m.length, m[q].1 ≠ k) : mdel m k = m.take q ++ m.drop q := by
  rw [mdel_no (mget_ne hm h hne), List.take_append_drop]
end
theorem run_take47 (A : Option Addr) (n c i : Nat) (hi : i ≤ n) (hc : n ≤ c) (W : World) : (Instr.slice 47 (.slice A n c) none (some (.int .i64 i)) none).run Tryz.prog W = .ok (.slice A i c) W := by
  have hp : (i : Int) ≤ c := by omega
  have h0 : (0 : Int) ≤ i := by omega
  go_simp
theorem run_drop47 (A : Option Addr) (n c i : Nat) (hi : i ≤ n) (W : World) : (Instr.slice 47 (.slice A n c) (some (.int .i64 i)) none none).run Tryz.prog W = .ok (.slice (if c = i then A else A.map (·.add (i * 2))) (n - i) (c - i)) W := by
  have hp : (i : Int) ≤ n := by omega
  have h0 : (0 : Int) ≤ i := by omega
  go_simp
theorem Reads.take {w : World} {B size n k : Nat} {A : Option Addr} {xs : List Value} (h : Reads w B size A n xs) (hk : k ≤ n) : Reads w B size A k (xs.take (k * size)) := by
  have hle : k * size ≤ n * size := Nat.mul_le_mul_right size hk
  refine ⟨by rw [List.length_take, h.1]; omega, fun h0 => ?_⟩
  obtain ⟨ad, h1, h2, h3⟩ := h.2 (by omega)
  refine ⟨ad, h1, h2, fun j u hu => h3 j u ?_⟩
  rw [List.getElem?_take] at hu
  split at hu
  · exact hu
  · cases hu
noncomputable def pu10C : Code := ((Tryz.f46.body.bind (theRegion 10)).getD .skip)
set_option maxRecDepth 1000000 in
set_option maxHeartbeats 3200000 in
set_option linter.unusedSimpArgs false in
theorem pu10_any (w : World) (b n1 n2 n3 p1 p2 p3 k m c N3 : Nat) (A1 A2 A3 B : Option Addr) (zi zp : Int) (l D : List (Str × Str)) (K : Exit → Act → World → Prop) (hk : k ≤ n1) (hn : n1 ≤ 1000000) (hm : m ≤ 1000000)
    (hb : Blk w b 68 #[.int .i64 zi, .int .i64 zp, .slice A1 n1 p1, .slice A2 n2 p2, .slice A3 n3 p3])
    (hs1 : ∀ W, (Instr.slice 47 (.slice A1 n1 p1) none (some (.int .i64 k)) none).run Tryz.prog W = .ok (.slice A1 k p1) W)
    (hr1 : ∀ W, Keeps [] w W → Reads W W.heap.size 2 A1 k (rw pc (l.take k))) (hr2 : ∀ W, Keeps [] w W → Reads W W.heap.size 2 B m (rw pc D)) (hN3 : k + m = N3)
    (u0 u1 u2 u3 u4 u5 u6 u7 u8 u12 u13 u14 u15 u16 u17 u18 u19 u20 u21 u22 u23 u24 u25 u26 u27 u28 u29 u30 u31 u32 u33 u34 u35 u36 u37 u38 u39 u40 u41 u42 u43 u44 u45 u46 u47 u48 u49 u50 u51 u52 u53 u54 u55 u56 u57 u58 u59 u60 u61 u62 u63 u64 u65 u66 u67 u68 u69 u70 u71 u72 u73 u74 u75 u76 u77 u78 u79 u80 u81 u82 u83 u84 u85 u86 u87 u88 u89 u90 u91 u92 u93 : Value)
    (hK : ∀ (v64 v65 v66 v67 v68 v69 v70 v71 v72 : Value) (v3 : Value) (W : World), W.ownsRow 0 88 2 v3 N3 (rw pc (l.take k ++ D)) → Blk W b 68 #[.int .i64 zi, .int .i64 zp, v3, .slice A2 n2 p2, .slice A3 n3 p3] → Keeps [b] w W → (∀ g ∈ fp v3, w.heap.size ≤ g) → K .normal ⟨#[u0, u1, u2, u3, u4, u5, u6, u7, u8, .pointer (some ⟨b, 0, none⟩), .int .i64 (k : Nat), .slice B m c, u12, u13, u14, u15, u16, u17, u18, u19, u20, u21, u22, u23, u24, u25, u26, u27, u28, u29, u30, u31, u32, u33, u34, u35, u36, u37, u38, u39, u40, u41, u42, u43, u44, u45, u46, u47, u48, u49, u50, u51, u52, u53, u54, u55, u56, u57, u58, u59, u60, u61, u62, u63, v64, v65, v66, v67, v68, v69, v70, v71, v72, u73, u74, u75, u76, u77, u78, u79, u80, u81, u82, u83, u84, u85, u86, u87, u88, u89, u90, u91, u92, u93], []⟩ W) :
    Code.wp Tryz.prog pu10C K ⟨#[u0, u1, u2, u3, u4, u5, u6, u7, u8, .pointer (some ⟨b, 0, none⟩), .int .i64 (k : Nat), .slice B m c, u12, u13, u14, u15, u16, u17, u18, u19, u20, u21, u22, u23, u24, u25, u26, u27, u28, u29, u30, u31, u32, u33, u34, u35, u36, u37, u38, u39, u40, u41, u42, u43, u44, u45, u46, u47, u48, u49, u50, u51, u52, u53, u54, u55, u56, u57, u58, u59, u60, u61, u62, u63, u64, u65, u66, u67, u68, u69, u70, u71, u72, u73, u74, u75, u76, u77, u78, u79, u80, u81, u82, u83, u84, u85, u86, u87, u88, u89, u90, u91, u92, u93], []⟩ w := by
  have HB := Lib.hid hb
  have HR1 := Lib.hid hr1
  have HR2 := Lib.hid hr2
  have HN3 := Lib.hid hN3
  have f2 : w.cell? ⟨b, 2, none⟩ = some (.slice A1 n1 p1) := hb.cell 2
  have x2 : (w.alloc (.cells #[] 88)).cell? ⟨b, 2, none⟩ = some (.slice A1 n1 p1) := (hb.alloc (.cells #[] 88)).cell 2
  clear hb hr1 hr2 hN3
  conv => arg 2; whnf
  try dsimp only at hK ⊢
  have O0 : Hid ((w.alloc (.cells #[] 88)).ownsRow 0 88 2 (.slice (some ⟨w.heap.size, 0, none⟩) 0 0) 0 []) := Lib.hid (own_of_blk (Blk.new w 88 #[]) (by omega) (by omega) rfl rfl)
  have KA : Hid (Keeps [] w (w.alloc (.cells #[] 88))) := Lib.hid ((Keeps.refl _ _).alloc _)
  have BA := Lib.hid (HB.out.alloc (.cells #[] 88))
  go_wp2_with (at_builtin; refine wpList_app _ rfl (.tmp 64) (.tmp 68) _ rfl 88 (.agg #[.string ⟨#[]⟩, .string ⟨#[]⟩]) 2 32 Tryz.underlying47 info88 rfl (by omega) (.slice (some ⟨w.heap.size, 0, none⟩) 0 0) 0 [] rfl O0.out _ _ _ _ _ rfl (HR1.out _ KA.out) (rw_one pc_one _) (by unfold maxLen; omega) (by omega) ?_)
  intro v1 w1 o1 k1 f1
  have O1 := Lib.hid o1
  have F1 : Hid (∀ g ∈ fp v1, w.heap.size ≤ g) := Lib.hid (fun g hg => by
    rcases f1 g hg with h2 | h2
    · have : g = w.heap.size := by simpa [fp, Value.ownBlock] using h2
      omega
    · have := KA.out.size; omega)
  have K1 : Hid (Keeps [] w w1) := Lib.hid (KA.out.trans k1 (fun g hg => .inr (by have h1 : g = w.heap.size := (by simpa [fp, Value.ownBlock] using hg); omega)))
  have B1 := Lib.hid (BA.out.keep k1 (fun h' => own_blk_off O0.out BA.out (by decide) h'))
  clear o1 f1 k1 O0 KA BA f2 x2
  obtain ⟨C1, e1, hv1, -, -, -⟩ := own_shape O1.out
  subst hv1
  go_wp2_with (at_builtin; refine wpList_app _ rfl (.tmp 69) (.tmp 70) _ rfl 88 (.agg #[.string ⟨#[]⟩, .string ⟨#[]⟩]) 2 32 Tryz.underlying47 info88 rfl (by omega) (.slice C1 k e1) k (rw pc (l.take k)) rfl O1.out _ _ _ _ _ rfl (HR2.out _ K1.out) (rw_one pc_one _) (by unfold maxLen; omega) (by omega) ?_)
  intro v3 w3 o3 k3 f3
  have O3 : Hid (w3.ownsRow 0 88 2 v3 N3 (rw pc (l.take k ++ D))) := Lib.hid (by
    have e : rw pc (l.take k ++ D) = (rw pc (l.take k)) ++ rw pc D := by simp [rw_append, rw_cons, pc]
    rw [← HN3.out, e]; first | exact o3 | simpa using o3)
  have F3 : Hid (∀ g ∈ fp v3, w.heap.size ≤ g) := Lib.hid (fun g hg => by
    rcases f3 g hg with h2 | h2
    · exact F1.out g h2
    · have := K1.out.size; omega)
  have K3 : Hid (Keeps [] w w3) := Lib.hid (K1.out.trans k3 (fun g hg => .inr (F1.out g hg)))
  have B3 := Lib.hid (B1.out.keep k3 (fun h' => own_blk_off O1.out B1.out (by decide) h'))
  clear o3 f3 k3 O1 K1 B1 F1
  obtain ⟨C3, e3, hv3, -, -, -⟩ := own_shape O3.out
  subst hv3
  have x3 : w3.cell? ⟨b, 2, none⟩ = some (.slice A1 n1 p1) := B3.out.cell 2
  have y3 : w3.frozen? ⟨b, 2, none⟩ = false := B3.out.frozen 2
  have B4 : Hid (Blk (w3.setCell ⟨b, 2, none⟩ (.slice C3 N3 e3)) b 68 #[.int .i64 zi, .int .i64 zp, .slice C3 N3 e3, .slice A2 n2 p2, .slice A3 n3 p3]) := Lib.hid (B3.out.set_ 2 _)
  have O4 : Hid ((w3.setCell ⟨b, 2, none⟩ (.slice C3 N3 e3)).ownsRow 0 88 2 (.slice C3 N3 e3) N3 (rw pc (l.take k ++ D))) := Lib.hid (own_far O3.out (own_blk_off O3.out B3.out (by decide)) _)
  have K4 : Hid (Keeps [b] w (w3.setCell ⟨b, 2, none⟩ (.slice C3 N3 e3))) := Lib.hid ((K3.out.mono (by simp)).setCell (by simp) _)
  go_wp2_with fail
  exact hK _ _ _ _ _ _ _ _ _ _ _ O4.out B4.out K4.out F3.out
noncomputable def pu11C : Code := ((Tryz.f46.body.bind (theRegion 11)).getD .skip)
set_option maxRecDepth 1000000 in
set_option maxHeartbeats 3200000 in
set_option linter.unusedSimpArgs false in
theorem pu11_any (w : World) (b n1 n2 n3 p1 p2 p3 k m c N3 : Nat) (A1 A2 A3 B : Option Addr) (zi zp : Int) (key val : Str) (l D : List (Str × Str)) (K : Exit → Act → World → Prop) (hk : k ≤ n1) (hn : n1 ≤ 1000000) (hm : m ≤ 1000000)
    (hb : Blk w b 68 #[.int .i64 zi, .int .i64 zp, .slice A1 n1 p1, .slice A2 n2 p2, .slice A3 n3 p3])
    (hs1 : ∀ W, (Instr.slice 47 (.slice A1 n1 p1) none (some (.int .i64 k)) none).run Tryz.prog W = .ok (.slice A1 k p1) W)
    (hr1 : ∀ W, Keeps [] w W → Reads W W.heap.size 2 A1 k (rw pc (l.take k))) (hr2 : ∀ W, Keeps [] w W → Reads W W.heap.size 2 B m (rw pc D)) (hN3 : k + 1 + m = N3)
    (u0 u1 u4 u5 u6 u7 u8 u12 u13 u14 u15 u16 u17 u18 u19 u20 u21 u22 u23 u24 u25 u26 u27 u28 u29 u30 u31 u32 u33 u34 u35 u36 u37 u38 u39 u40 u41 u42 u43 u44 u45 u46 u47 u48 u49 u50 u51 u52 u53 u54 u55 u56 u57 u58 u59 u60 u61 u62 u63 u64 u65 u66 u67 u68 u69 u70 u71 u72 u73 u74 u75 u76 u77 u78 u79 u80 u81 u82 u83 u84 u85 u86 u87 u88 u89 u90 u91 u92 u93 : Value)
    (hK : ∀ (v73 v74 v75 v76 v77 v78 v79 v80 v81 v82 v83 v84 v85 v86 : Value) (v3 : Value) (W : World), W.ownsRow 0 88 2 v3 N3 (rw pc (l.take k ++ (key, val) :: D)) → Blk W b 68 #[.int .i64 zi, .int .i64 zp, v3, .slice A2 n2 p2, .slice A3 n3 p3] → Keeps [b] w W → (∀ g ∈ fp v3, w.heap.size ≤ g) → K .normal ⟨#[u0, u1, sv key, sv val, u4, u5, u6, u7, u8, .pointer (some ⟨b, 0, none⟩), .int .i64 (k : Nat), .slice B m c, u12, u13, u14, u15, u16, u17, u18, u19, u20, u21, u22, u23, u24, u25, u26, u27, u28, u29, u30, u31, u32, u33, u34, u35, u36, u37, u38, u39, u40, u41, u42, u43, u44, u45, u46, u47, u48, u49, u50, u51, u52, u53, u54, u55, u56, u57, u58, u59, u60, u61, u62, u63, u64, u65, u66, u67, u68, u69, u70, u71, u72, v73, v74, v75, v76, v77, v78, v79, v80, v81, v82, v83, v84, v85, v86, u87, u88, u89, u90, u91, u92, u93], []⟩ W) :
    Code.wp Tryz.prog pu11C K ⟨#[u0, u1, sv key, sv val, u4, u5, u6, u7, u8, .pointer (some ⟨b, 0, none⟩), .int .i64 (k : Nat), .slice B m c, u12, u13, u14, u15, u16, u17, u18, u19, u20, u21, u22, u23, u24, u25, u26, u27, u28, u29, u30, u31, u32, u33, u34, u35, u36, u37, u38, u39, u40, u41, u42, u43, u44, u45, u46, u47, u48, u49, u50, u51, u52, u53, u54, u55, u56, u57, u58, u59, u60, u61, u62, u63, u64, u65, u66, u67, u68, u69, u70, u71, u72, u73, u74, u75, u76, u77, u78, u79, u80, u81, u82, u83, u84, u85, u86, u87, u88, u89, u90, u91, u92, u93], []⟩ w := by
  have HB := Lib.hid hb
  have HR1 := Lib.hid hr1
  have HR2 := Lib.hid hr2
  have HN3 := Lib.hid hN3
  have f2 : w.cell? ⟨b, 2, none⟩ = some (.slice A1 n1 p1) := hb.cell 2
  have x2 : (w.alloc (.cells #[] 88)).cell? ⟨b, 2, none⟩ = some (.slice A1 n1 p1) := (hb.alloc (.cells #[] 88)).cell 2
  clear hb hr1 hr2 hN3
  conv => arg 2; whnf
  try dsimp only at hK ⊢
  have O0 : Hid ((w.alloc (.cells #[] 88)).ownsRow 0 88 2 (.slice (some ⟨w.heap.size, 0, none⟩) 0 0) 0 []) := Lib.hid (own_of_blk (Blk.new w 88 #[]) (by omega) (by omega) rfl rfl)
  have KA : Hid (Keeps [] w (w.alloc (.cells #[] 88))) := Lib.hid ((Keeps.refl _ _).alloc _)
  have BA := Lib.hid (HB.out.alloc (.cells #[] 88))
  go_wp2_with (at_builtin; refine wpList_app _ rfl (.tmp 73) (.tmp 77) _ rfl 88 (.agg #[.string ⟨#[]⟩, .string ⟨#[]⟩]) 2 32 Tryz.underlying47 info88 rfl (by omega) (.slice (some ⟨w.heap.size, 0, none⟩) 0 0) 0 [] rfl O0.out _ _ _ _ _ rfl (HR1.out _ KA.out) (rw_one pc_one _) (by unfold maxLen; omega) (by omega) ?_)
  intro v1 w1 o1 k1 f1
  have O1 := Lib.hid o1
  have F1 : Hid (∀ g ∈ fp v1, w.heap.size ≤ g) := Lib.hid (fun g hg => by
    rcases f1 g hg with h2 | h2
    · have : g = w.heap.size := by simpa [fp, Value.ownBlock] using h2
      omega
    · have := KA.out.size; omega)
  have K1 : Hid (Keeps [] w w1) := Lib.hid (KA.out.trans k1 (fun g hg => .inr (by have h1 : g = w.heap.size := (by simpa [fp, Value.ownBlock] using hg); omega)))
  have B1 := Lib.hid (BA.out.keep k1 (fun h' => own_blk_off O0.out BA.out (by decide) h'))
  clear o1 f1 k1 O0 KA BA f2 x2
  obtain ⟨C1, e1, hv1, -, -, -⟩ := own_shape O1.out
  subst hv1
  have O1a := Lib.hid (own_keep O1.out ((Keeps.refl [] w1).alloc (.cells #[sv key, sv val] 88)) (by simp))
  have K1a : Hid (Keeps [] w (w1.alloc (.cells #[sv key, sv val] 88))) := Lib.hid (K1.out.alloc _)
  have B1a := Lib.hid (B1.out.alloc (.cells #[sv key, sv val] 88))
  have RB := Lib.hid (reads_blk (Blk.new w1 88 #[sv key, sv val]) (xs := [sv key, sv val]) (size := 2) rfl rfl)
  go_wp2_with (at_builtin; refine wpList_app _ rfl (.tmp 78) (.tmp 82) _ rfl 88 (.agg #[.string ⟨#[]⟩, .string ⟨#[]⟩]) 2 32 Tryz.underlying47 info88 rfl (by omega) (.slice C1 k e1) k (rw pc (l.take k)) rfl O1a.out _ _ _ _ _ rfl RB.out (by simp [Value.oneCell', sv]) (by unfold maxLen; omega) (by omega) ?_)
  intro v2 w2 o2 k2 f2
  have O2 := Lib.hid o2
  have F2 : Hid (∀ g ∈ fp v2, w.heap.size ≤ g) := Lib.hid (fun g hg => by
    rcases f2 g hg with h2 | h2
    · exact F1.out g h2
    · have := K1.out.size; omega)
  have K2 : Hid (Keeps [] w w2) := Lib.hid (K1a.out.trans k2 (fun g hg => .inr (F1.out g hg)))
  have B2 := Lib.hid (B1a.out.keep k2 (fun h' => own_blk_off O1a.out B1a.out (by decide) h'))
  clear o2 f2 k2 O1a K1a B1a RB O1 K1 B1 F1
  obtain ⟨C2, e2, hv2, -, -, -⟩ := own_shape O2.out
  subst hv2
  go_wp2_with (at_builtin; refine wpList_app _ rfl (.tmp 83) (.tmp 84) _ rfl 88 (.agg #[.string ⟨#[]⟩, .string ⟨#[]⟩]) 2 32 Tryz.underlying47 info88 rfl (by omega) (.slice C2 (k + 1) e2) (k + 1) (rw pc (l.take k) ++ [sv key, sv val]) rfl O2.out _ _ _ _ _ rfl (HR2.out _ K2.out) (rw_one pc_one _) (by unfold maxLen; omega) (by omega) ?_)
  intro v3 w3 o3 k3 f3
  have O3 : Hid (w3.ownsRow 0 88 2 v3 N3 (rw pc (l.take k ++ (key, val) :: D))) := Lib.hid (by
    have e : rw pc (l.take k ++ (key, val) :: D) = (rw pc (l.take k) ++ [sv key, sv val]) ++ rw pc D := by simp [rw_append, rw_cons, pc]
    rw [← HN3.out, e]; first | exact o3 | simpa using o3)
  have F3 : Hid (∀ g ∈ fp v3, w.heap.size ≤ g) := Lib.hid (fun g hg => by
    rcases f3 g hg with h2 | h2
    · exact F2.out g h2
    · have := K2.out.size; omega)
  have K3 : Hid (Keeps [] w w3) := Lib.hid (K2.out.trans k3 (fun g hg => .inr (F2.out g hg)))
  have B3 := Lib.hid (B2.out.keep k3 (fun h' => own_blk_off O2.out B2.out (by decide) h'))
  clear o3 f3 k3 O2 K2 B2 F2
  obtain ⟨C3, e3, hv3, -, -, -⟩ := own_shape O3.out
  subst hv3
  have x3 : w3.cell? ⟨b, 2, none⟩ = some (.slice A1 n1 p1) := B3.out.cell 2
  have y3 : w3.frozen? ⟨b, 2, none⟩ = false := B3.out.frozen 2
  have B4 : Hid (Blk (w3.setCell ⟨b, 2, none⟩ (.slice C3 N3 e3)) b 68 #[.int .i64 zi, .int .i64 zp, .slice C3 N3 e3, .slice A2 n2 p2, .slice A3 n3 p3]) := Lib.hid (B3.out.set_ 2 _)
  have O4 : Hid ((w3.setCell ⟨b, 2, none⟩ (.slice C3 N3 e3)).ownsRow 0 88 2 (.slice C3 N3 e3) N3 (rw pc (l.take k ++ (key, val) :: D))) := Lib.hid (own_far O3.out (own_blk_off O3.out B3.out (by decide)) _)
  have K4 : Hid (Keeps [b] w (w3.setCell ⟨b, 2, none⟩ (.slice C3 N3 e3))) := Lib.hid ((K3.out.mono (by simp)).setCell (by simp) _)
  go_wp2_with fail
  exact hK _ _ _ _ _ _ _ _ _ _ _ _ _ _ _ _ O4.out B4.out K4.out F3.out
end Go.Proofs.YtbllmpcpfmlemaaGreat
