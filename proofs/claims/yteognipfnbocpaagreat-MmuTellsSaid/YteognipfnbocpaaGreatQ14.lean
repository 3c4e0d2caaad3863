/- The reference's made. -/
import Derived.Test.YteognipfnbocpaaGreatQ13
import Derived.Test.YteognipfnbocpaaGreatQS
namespace Go.Proofs.YteognipfnbocpaaGreat
open Go.RowKit
open T12 (E TbRep RfRep ent ents cells5 mapM mapN wlkM wlkB wlkN unmM clrM clrB lookX)
open T13 (Tl En TlRep es Nd)

theorem ins_at {α : Type} (l : List α) (x : α) {i : Nat} (hi : i ≤ l.length) (j : Nat) : (l.take i ++ x :: l.drop i)[j]? = if j < i then l[j]? else if j = i then some x else l[j - 1]? := by
  rcases Nat.lt_trichotomy j i with h | h | h
  · rw [if_pos h, List.getElem?_append_left (by simp; omega), List.getElem?_take, if_pos h]
  · subst h
    rw [if_neg (by omega), if_pos rfl, List.getElem?_append_right (by simp; omega), List.length_take, Nat.min_eq_left hi, Nat.sub_self]
    rfl
  · rw [if_neg (by omega), if_neg (by omega), List.getElem?_append_right (by simp; omega), List.length_take, Nat.min_eq_left hi]
    obtain ⟨k, rfl⟩ : ∃ k, j = i + 1 + k := ⟨j - i - 1, by omega⟩
    rw [show i + 1 + k - i = k + 1 by omega, List.getElem?_cons_succ, List.getElem?_drop]
    congr 1
    omega
theorem ins_len {α : Type} (l : List α) (x : α) {i : Nat} (hi : i ≤ l.length) : (l.take i ++ x :: l.drop i).length = l.length + 1 := by simp; omega
def shL (i : Nat) : Lb → Lb
  | .tb j => .tb (if j < (i : Int) then j else j + 1)
  | .me => .me
  | .cl j => .cl j
theorem shL_lt {i j : Nat} (h : j < i) : shL i (.tb j) = .tb j := by
  show Lb.tb (if (j : Int) < (i : Int) then (j : Int) else (j : Int) + 1) = _
  rw [if_pos (by omega)]
theorem shL_ge {i j : Nat} (h : i ≤ j) : shL i (.tb j) = .tb ((j : Int) + 1) := by
  show Lb.tb (if (j : Int) < (i : Int) then (j : Int) else (j : Int) + 1) = _
  rw [if_neg (by omega)]
/-- The state with a new table. -/
def Rm.ins (r : Rm) (i : Nat) (x : Int) : Rm := { r with N := r.N.take i ++ x :: r.N.drop i, M := r.M.take i ++ pg0 :: r.M.drop i }
theorem RmAt.ins {w w' : World} {F : List Nat} {p : Nat} {r : Rm} {L : Nat → Option Lb} {A1 A2 A3 A1' A2' : Option Addr} {c1 c2 c3 c1' c2' : Nat} {qs cs : List Nat} (h : RmAt w F p r L A1 A2 A3 c1 c2 c3 qs cs) {i q : Nat} {x : Int} (hi : i ≤ r.N.length)
    (hp : Blk w' p 39 #[.slice A1' (r.N.length + 1) c1', .slice A2' (r.M.length + 1) c2', .slice A3 r.C.length c3, .int .i64 r.n])
    (o1 : w'.ownsRow 0 3 1 (.slice A1' (r.N.length + 1) c1') (r.N.length + 1) (iv (r.N.take i ++ x :: r.N.drop i)))
    (o2 : w'.ownsRow 0 78 1 (.slice A2' (r.M.length + 1) c2') (r.M.length + 1) ((qs.take i ++ q :: qs.drop i).map pv))
    (hk : Keeps [p] w w') (ht : RfRep w' [q] q pg0) (hq : w.heap.size ≤ q) (f1 : ∀ g ∈ fp (.slice A1' (r.N.length + 1) c1'), w.heap.size ≤ g) (f2 : ∀ g ∈ fp (.slice A2' (r.M.length + 1) c2'), w.heap.size ≤ g)
    (hq1 : q ∉ fp (.slice A1' (r.N.length + 1) c1')) (hq2 : q ∉ fp (.slice A2' (r.M.length + 1) c2')) :
    RmAt w' (q :: (fp (.slice A1' (r.N.length + 1) c1') ++ (fp (.slice A2' (r.M.length + 1) c2') ++ F))) p (r.ins i x)
      (fun g => if g = q then some (.tb i) else if g ∈ fp (.slice A1' (r.N.length + 1) c1') ∨ g ∈ fp (.slice A2' (r.M.length + 1) c2') then some .me else (L g).map (shL i)) A1' A2' A3 c1' c2' c3 (qs.take i ++ q :: qs.drop i) cs := by
  have hil : i ≤ r.M.length := by rw [← h.nm]; exact hi
  have hiq : i ≤ qs.length := by rw [h.qlen]; exact hil
  have n1 : (r.ins i x).N.length = r.N.length + 1 := ins_len _ _ hi
  have n2 : (r.ins i x).M.length = r.M.length + 1 := ins_len _ _ hil
  have hLlt : ∀ g l, L g = some l → g < w.heap.size := h.lt
  have old : ∀ g l, L g = some l → (if g = q then some (Lb.tb i) else if g ∈ fp (.slice A1' (r.N.length + 1) c1') ∨ g ∈ fp (.slice A2' (r.M.length + 1) c2') then some .me else (L g).map (shL i)) = some (shL i l) := fun g l hg => by
    have h1 := hLlt g l hg
    rw [if_neg (by omega), if_neg (fun h2 => h2.elim (fun h3 => by have := f1 g h3; omega) (fun h3 => by have := f2 g h3; omega)), hg]
    rfl
  have off : ∀ g l, L g = some l → l ≠ .me → g ∉ [p] := fun g l h1 h2 h3 => by
    rw [List.mem_singleton.1 h3, h.lp] at h1
    injection h1 with h1
    exact h2 h1.symm
  have p3 : p ∉ fp (.slice A3 r.C.length c3) := own_blk_off h.o3 h.bp (by decide)
  refine ⟨fun g l hg => ?_, fun g l hg => ?_, ?_, ?_, ?_, own_keep h.o3 hk (fun g hg h1 => by rw [List.mem_singleton.1 h1] at hg; exact p3 hg), old p _ h.lp, ?_, ?_, fun g hg => old g _ (h.l3 g hg), by rw [n1, n2, h.nm], fun j m hj => ?_, fun j k hj => ?_, fun g hg => ?_⟩
  · split at hg
    · rename_i e; rw [e]; exact ht.lt q (by simp)
    · split at hg
      · rename_i e; exact e.elim (fun e => own_lt o1 e) (fun e => own_lt o2 e)
      · cases hL : L g with
        | none => rw [hL] at hg; cases hg
        | some l' => exact Nat.lt_of_lt_of_le (hLlt g l' hL) hk.size
  · split at hg
    · rename_i e; rw [e]; exact List.mem_cons_self
    · split at hg
      · rename_i e
        exact List.mem_cons_of_mem _ (e.elim (fun e => List.mem_append_left _ e) (fun e => List.mem_append_right _ (List.mem_append_left _ e)))
      · cases hL : L g with
        | none => rw [hL] at hg; cases hg
        | some l' => exact List.mem_cons_of_mem _ (List.mem_append_right _ (List.mem_append_right _ (h.inF g l' hL)))
  · rw [n1, n2]; exact hp
  · rw [n1]; exact o1
  · rw [n2]; exact o2
  · rw [n1]
    intro g hg
    show (if g = q then some (Lb.tb i) else _) = _
    rw [if_neg (fun e : g = q => hq1 (by rw [← e]; exact hg)), if_pos (.inl hg)]
  · rw [n2]
    intro g hg
    show (if g = q then some (Lb.tb i) else _) = _
    rw [if_neg (fun e : g = q => hq2 (by rw [← e]; exact hg)), if_pos (.inr hg)]
  · have hj' : (r.M.take i ++ pg0 :: r.M.drop i)[j]? = some m := hj
    rw [ins_at _ _ hil] at hj'
    have hqq := ins_at qs q hiq j
    by_cases e1 : j < i
    · rw [if_pos e1] at hj' hqq
      obtain ⟨G1, q1, g1, g2, g3⟩ := h.ts j m hj'
      refine ⟨G1, q1, by rw [hqq]; exact g1, g2.keep hk (fun g hg => off g _ (g3 g hg) (by simp)), fun g hg => ?_⟩
      exact (old g _ (g3 g hg)).trans (by rw [shL_lt e1])
    · rw [if_neg e1] at hj' hqq
      by_cases e2 : j = i
      · rw [if_pos e2] at hj' hqq
        injection hj' with hj'
        subst hj'
        refine ⟨[q], q, hqq, ht, fun g hg => ?_⟩
        rw [List.mem_singleton.1 hg, if_pos rfl, e2]
      · rw [if_neg e2] at hj' hqq
        obtain ⟨G1, q1, g1, g2, g3⟩ := h.ts (j - 1) m hj'
        refine ⟨G1, q1, by rw [hqq]; exact g1, g2.keep hk (fun g hg => off g _ (g3 g hg) (by simp)), fun g hg => ?_⟩
        exact (old g _ (g3 g hg)).trans (by rw [shL_ge (by omega)]; congr 2; omega)
  · obtain ⟨G1, q1, g1, g2, g3⟩ := h.ks j k hj
    exact ⟨G1, q1, g1, g2.keep hk (fun g hg => off g _ (g3 g hg) (by simp)), fun g hg => old g _ (g3 g hg)⟩
  · rcases List.mem_cons.1 hg with rfl | hg
    · exact ht.lt _ (by simp)
    · rcases List.mem_append.1 hg with hg | hg
      · exact own_lt o1 hg
      · rcases List.mem_append.1 hg with hg | hg
        · exact own_lt o2 hg
        · exact Nat.lt_of_lt_of_le (h.fl g hg) hk.size
/-- What made leaves. -/
structure MadeS (r : Rm) (x : Int) (r' : Rm) : Prop where
  t : ∀ y, r'.tab y = r.tab y
  c : r'.C = r.C
  n : r'.n = r.n
  a : Asc r'.N
  l : r'.N.length = r'.M.length
  k : r'.N.length ≤ r.N.length + 1
  ix : (r'.ix x).isSome
theorem ix_none {r : Rm} {x : Int} (h : ∀ j (hj : j < r.N.length), r.N[j] ≠ x) : r.ix x = none := by
  unfold Rm.ix
  rw [List.findIdx?_eq_none_iff]
  intro y hy
  obtain ⟨j, hj, rfl⟩ := List.getElem_of_mem hy
  simpa using h j hj
theorem MadeS.new {r : Rm} {x : Int} {i : Nat} (ha : Asc r.N) (hl : r.N.length = r.M.length) (hi : i ≤ r.N.length) (h1 : ∀ j (hj : j < r.N.length), j < i → r.N[j] < x) (h2 : ∀ j (hj : j < r.N.length), i ≤ j → x < r.N[j]) : MadeS r x (r.ins i x) ∧ (r.ins i x).ix x = some i ∧ r.tab x = pg0 := by
  have hil : i ≤ r.M.length := by rw [← hl]; exact hi
  have n1 : (r.ins i x).N.length = r.N.length + 1 := ins_len _ _ hi
  have n2 : (r.ins i x).M.length = r.M.length + 1 := ins_len _ _ hil
  have at1 : ∀ j, (r.ins i x).N[j]? = if j < i then r.N[j]? else if j = i then some x else r.N[j - 1]? := ins_at _ _ hi
  have at2 : ∀ j, (r.ins i x).M[j]? = if j < i then r.M[j]? else if j = i then some pg0 else r.M[j - 1]? := ins_at _ _ hil
  have hasc : Asc (r.ins i x).N := by
    show Asc (r.N.take i ++ x :: r.N.drop i)
    refine List.pairwise_append.2 ⟨List.Pairwise.sublist (List.take_sublist _ _) ha, List.pairwise_cons.2 ⟨fun y hy => ?_, List.Pairwise.sublist (List.drop_sublist _ _) ha⟩, fun a ha' b hb => ?_⟩
    · obtain ⟨j, hj, rfl⟩ := List.getElem_of_mem hy
      rw [List.getElem_drop]
      exact h2 _ _ (by omega)
    · obtain ⟨j, hj, rfl⟩ := List.getElem_of_mem ha'
      rw [List.getElem_take]
      have hj' : j < i := by simp at hj; omega
      have h3 := h1 j (by simp at hj; omega) hj'
      rcases List.mem_cons.1 hb with rfl | hb
      · exact h3
      · obtain ⟨k, hk, rfl⟩ := List.getElem_of_mem hb
        rw [List.getElem_drop]
        have := h2 (i + k) (by simp at hk; omega) (by omega)
        omega
  have hself : ∀ j y, (r.ins i x).N[j]? = some y → (r.ins i x).ix y = some j := fun j y hj => by
    obtain ⟨hj1, rfl⟩ := List.getElem?_eq_some_iff.1 hj
    exact ix_self hasc hj1
  have hix : (r.ins i x).ix x = some i := hself i x (by rw [at1, if_neg (by omega), if_pos rfl])
  have hno : r.ix x = none := ix_none (fun j hj e => by
    by_cases hji : j < i
    · have := h1 j hj hji; omega
    · have := h2 j hj (by omega); omega)
  have htx : r.tab x = pg0 := by unfold Rm.tab; rw [hno]
  refine ⟨⟨fun y => ?_, rfl, rfl, hasc, by rw [n1, n2, hl], by rw [n1]; exact Nat.le_refl _, by rw [hix]; rfl⟩, hix, htx⟩
  by_cases e : y = x
  · rw [e, htx]
    unfold Rm.tab
    rw [hix]
    show ((r.ins i x).M[i]?).getD pg0 = pg0
    rw [at2, if_neg (by omega), if_pos rfl]
    rfl
  · cases hy : r.ix y with
    | none =>
      have h3 : (r.ins i x).ix y = none := ix_none (fun j hj e2 => by
        have h4 : (r.ins i x).N[j]? = some y := by rw [List.getElem?_eq_getElem hj, e2]
        rw [at1] at h4
        have h5 : ∀ k, r.N[k]? = some y → False := fun k hk => by
          obtain ⟨hk1, hk2⟩ := List.getElem?_eq_some_iff.1 hk
          have := ix_self ha hk1
          rw [hk2, hy] at this
          cases this
        split at h4
        · exact h5 _ h4
        · split at h4
          · injection h4 with h4; exact e h4.symm
          · exact h5 _ h4)
      unfold Rm.tab
      rw [hy, h3]
    | some j =>
      obtain ⟨hj, hjy⟩ := rix_lt hy
      unfold Rm.tab
      rw [hy]
      by_cases hji : j < i
      · have h3 : (r.ins i x).ix y = some j := hself j y (by rw [at1, if_pos hji, List.getElem?_eq_getElem hj, hjy])
        rw [h3]
        show ((r.ins i x).M[j]?).getD pg0 = (r.M[j]?).getD pg0
        rw [at2, if_pos hji]
      · have h3 : (r.ins i x).ix y = some (j + 1) := hself (j + 1) y (by rw [at1, if_neg (by omega), if_neg (by omega), Nat.add_sub_cancel, List.getElem?_eq_getElem hj, hjy])
        rw [h3]
        show ((r.ins i x).M[j + 1]?).getD pg0 = (r.M[j]?).getD pg0
        rw [at2, if_neg (by omega), if_neg (by omega), Nat.add_sub_cancel]
theorem MadeS.old {r : Rm} {x : Int} {i : Nat} (ha : Asc r.N) (hl : r.N.length = r.M.length) (hi : r.ix x = some i) : MadeS r x r := ⟨fun _ => rfl, rfl, rfl, ha, hl, by omega, by rw [hi]; rfl⟩
end Go.Proofs.YteognipfnbocpaaGreat
