/- The reference's Mmu as plain data, and how it lies in memory. -/
import Derived.Test.YteognipfnbocpaaGreatW15
import Derived.Test.YteognipfnbocpaaGreatT12R
import Derived.Test.YteognipfnbocpaaGreatT13E
import Derived.Test.YteognipfnbocpaaGreatZ3
namespace Go.Proofs.YteognipfnbocpaaGreat
open Go.RowKit
open T12 (E TbRep RfRep ent mapM mapN wlkM wlkB wlkN unmM clrM clrB lookX)
open T13 (Tl En TlRep)

/-- The reference's Mmu: the spaces in ascending order, their tables, the caches, the count. -/
structure Rm where
  N : List Int
  M : List Pg
  C : List Tl
  n : Int
/-- The place of a space. -/
def Rm.ix (r : Rm) (x : Int) : Option Nat := r.N.findIdx? (fun y => y == x)
def Rm.tab (r : Rm) (x : Int) : Pg := match r.ix x with
  | some i => (r.M[i]?).getD pg0
  | none => pg0
/-- The reference's Mmu r lies at block p; qs: where the tables lie; cs: where the caches lie. -/
structure RmAt (w : World) (F : List Nat) (p : Nat) (r : Rm) (L : Nat → Option Lb) (A1 A2 A3 : Option Addr) (c1 c2 c3 : Nat) (qs cs : List Nat) : Prop where
  lt : ∀ g l, L g = some l → g < w.heap.size
  inF : ∀ g l, L g = some l → g ∈ F
  bp : Blk w p 39 #[.slice A1 r.N.length c1, .slice A2 r.M.length c2, .slice A3 r.C.length c3, .int .i64 r.n]
  o1 : w.ownsRow 0 3 1 (.slice A1 r.N.length c1) r.N.length (iv r.N)
  o2 : w.ownsRow 0 78 1 (.slice A2 r.M.length c2) r.M.length (qs.map pv)
  o3 : w.ownsRow 0 63 1 (.slice A3 r.C.length c3) r.C.length (cs.map pv)
  lp : L p = some .me
  l1 : ∀ g ∈ fp (.slice A1 r.N.length c1), L g = some .me
  l2 : ∀ g ∈ fp (.slice A2 r.M.length c2), L g = some .me
  l3 : ∀ g ∈ fp (.slice A3 r.C.length c3), L g = some .me
  nm : r.N.length = r.M.length
  ts : ∀ (i : Nat) m, r.M[i]? = some m → ∃ G q, qs[i]? = some q ∧ RfRep w G q m ∧ ∀ g ∈ G, L g = some (.tb i)
  ks : ∀ (i : Nat) k, r.C[i]? = some k → ∃ G q, cs[i]? = some q ∧ TlRep 86 w G q k ∧ ∀ g ∈ G, L g = some (.cl i)
  fl : ∀ g ∈ F, g < w.heap.size
def RmRep (w : World) (F : List Nat) (p : Nat) (r : Rm) : Prop := ∃ L A1 A2 A3 c1 c2 c3 qs cs, RmAt w F p r L A1 A2 A3 c1 c2 c3 qs cs
/-- What an operation leaves. -/
def RmNext (w w' : World) (F : List Nat) (p : Nat) (r : Rm) : Prop := ∃ F', RmRep w' F' p r ∧ Keeps F w w' ∧ ∀ g ∈ F', g ∈ F ∨ w.heap.size ≤ g
section
variable {w w' : World} {F G : List Nat} {p : Nat} {r : Rm} {L : Nat → Option Lb} {A1 A2 A3 : Option Addr} {c1 c2 c3 : Nat} {qs cs : List Nat}
theorem RmAt.qlen (h : RmAt w F p r L A1 A2 A3 c1 c2 c3 qs cs) : qs.length = r.M.length := by have := h.o2.1; simpa using this
theorem RmAt.clen (h : RmAt w F p r L A1 A2 A3 c1 c2 c3 qs cs) : cs.length = r.C.length := by have := h.o3.1; simpa using this
/-- Nothing of it is turned. -/
theorem RmAt.keep (h : RmAt w F p r L A1 A2 A3 c1 c2 c3 qs cs) (hk : Keeps G w w') (hd : ∀ g l, L g = some l → g ∉ G) : RmAt w' F p r L A1 A2 A3 c1 c2 c3 qs cs := by
  refine ⟨fun g l hg => Nat.lt_of_lt_of_le (h.lt g l hg) hk.size, h.inF, h.bp.keep hk (hd p _ h.lp), own_keep h.o1 hk (fun g hg => hd g _ (h.l1 g hg)), own_keep h.o2 hk (fun g hg => hd g _ (h.l2 g hg)), own_keep h.o3 hk (fun g hg => hd g _ (h.l3 g hg)), h.lp, h.l1, h.l2, h.l3, h.nm, fun i m hi => ?_, fun i k hi => ?_, fun g hg => Nat.lt_of_lt_of_le (h.fl g hg) hk.size⟩
  · obtain ⟨G1, q, h1, h2, h3⟩ := h.ts i m hi
    exact ⟨G1, q, h1, h2.keep hk (fun g hg => hd g _ (h3 g hg)), h3⟩
  · obtain ⟨G1, q, h1, h2, h3⟩ := h.ks i k hi
    exact ⟨G1, q, h1, h2.keep hk (fun g hg => hd g _ (h3 g hg)), h3⟩
theorem RmRep.lt (h : RmRep w F p r) : ∀ g ∈ F, g < w.heap.size := by
  obtain ⟨L, A1, A2, A3, c1, c2, c3, qs, cs, h⟩ := h
  exact h.fl
theorem RmRep.keep (h : RmRep w F p r) (hk : Keeps G w w') (hd : ∀ g ∈ F, g ∉ G) : RmRep w' F p r := by
  obtain ⟨L, A1, A2, A3, c1, c2, c3, qs, cs, h⟩ := h
  exact ⟨L, A1, A2, A3, c1, c2, c3, qs, cs, h.keep hk (fun g l hg => hd g (h.inF g l hg))⟩
/-- A table is turned. -/
theorem RmAt.table (h : RmAt w F p r L A1 A2 A3 c1 c2 c3 qs cs) {i : Nat} {m m' : Pg} {G G' : List Nat} {q : Nat} (hi : r.M[i]? = some m) (hq : qs[i]? = some q) (hG : ∀ g ∈ G, L g = some (.tb i)) (hk : Keeps G w w') (ht : RfRep w' G' q m') (hG' : ∀ g ∈ G', g ∈ G ∨ w.heap.size ≤ g) :
    RmAt w' (G' ++ F) p { r with M := r.M.set i m' } (relab L G' (.tb i)) A1 A2 A3 c1 c2 c3 qs cs := by
  have hL : ∀ g ∈ G', L g = some (.tb i) ∨ L g = none := fun g hg => by
    rcases hG' g hg with h1 | h1
    · exact .inl (hG g h1)
    · right
      cases hl : L g with
      | none => rfl
      | some l => have := h.lt g l hl; omega
  have off : ∀ g l, L g = some l → l ≠ .tb i → g ∉ G := fun g l h1 h2 h3 => by rw [hG g h3] at h1; injection h1 with h1; exact h2 h1.symm
  have hil : i < r.M.length := (List.getElem?_eq_some_iff.1 hi).1
  refine ⟨fun g l hg => ?_, fun g l hg => ?_, ?_, own_keep h.o1 hk (fun g hg => off g _ (h.l1 g hg) (by simp)), ?_, own_keep h.o3 hk (fun g hg => off g _ (h.l3 g hg) (by simp)), relab_old hL h.lp, fun g hg => relab_old hL (h.l1 g hg), ?_, fun g hg => relab_old hL (h.l3 g hg), ?_, fun j k hj => ?_, fun j k hj => ?_, fun g hg => (List.mem_append.1 hg).elim (ht.lt g) (fun h1 => Nat.lt_of_lt_of_le (h.fl g h1) hk.size)⟩
  · unfold relab at hg
    split at hg
    · rename_i h1; exact ht.lt g h1
    · exact Nat.lt_of_lt_of_le (h.lt g l hg) hk.size
  · unfold relab at hg
    split at hg
    · rename_i h1; exact List.mem_append_left _ h1
    · exact List.mem_append_right _ (h.inF g l hg)
  · show Blk w' p 39 #[_, .slice A2 (r.M.set i m').length c2, _, _]
    rw [List.length_set]
    exact h.bp.keep hk (off p _ h.lp (by simp))
  · show w'.ownsRow 0 78 1 (.slice A2 (r.M.set i m').length c2) (r.M.set i m').length _
    rw [List.length_set]
    exact own_keep h.o2 hk (fun g hg => off g _ (h.l2 g hg) (by simp))
  · show ∀ g ∈ fp (.slice A2 (r.M.set i m').length c2), _
    rw [List.length_set]
    exact fun g hg => relab_old hL (h.l2 g hg)
  · show r.N.length = (r.M.set i m').length
    rw [List.length_set]; exact h.nm
  · have hj' : (r.M.set i m')[j]? = some k := hj
    rw [List.getElem?_set] at hj'
    by_cases e : i = j
    · subst e
      rw [if_pos rfl, if_pos hil] at hj'
      injection hj' with hj'
      subst hj'
      exact ⟨G', q, hq, ht, fun g hg => relab_in hg⟩
    · rw [if_neg e] at hj'
      obtain ⟨G1, q1, h1, h2, h3⟩ := h.ts j k hj'
      exact ⟨G1, q1, h1, h2.keep hk (fun g hg => off g _ (h3 g hg) (fun e1 => e (by injection e1 with e1; omega))), fun g hg => relab_old hL (h3 g hg)⟩
  · obtain ⟨G1, q1, h1, h2, h3⟩ := h.ks j k hj
    exact ⟨G1, q1, h1, h2.keep hk (fun g hg => off g _ (h3 g hg) (by simp)), fun g hg => relab_old hL (h3 g hg)⟩
/-- A cache is turned. -/
theorem RmAt.cache (h : RmAt w F p r L A1 A2 A3 c1 c2 c3 qs cs) {i : Nat} {k k' : Tl} {G G' : List Nat} {q : Nat} (hi : r.C[i]? = some k) (hq : cs[i]? = some q) (hG : ∀ g ∈ G, L g = some (.cl i)) (hk : Keeps G w w') (ht : TlRep 86 w' G' q k') (hG' : ∀ g ∈ G', g ∈ G ∨ w.heap.size ≤ g) :
    RmAt w' (G' ++ F) p { r with C := r.C.set i k' } (relab L G' (.cl i)) A1 A2 A3 c1 c2 c3 qs cs := by
  have hL : ∀ g ∈ G', L g = some (.cl i) ∨ L g = none := fun g hg => by
    rcases hG' g hg with h1 | h1
    · exact .inl (hG g h1)
    · right
      cases hl : L g with
      | none => rfl
      | some l => have := h.lt g l hl; omega
  have off : ∀ g l, L g = some l → l ≠ .cl i → g ∉ G := fun g l h1 h2 h3 => by rw [hG g h3] at h1; injection h1 with h1; exact h2 h1.symm
  have hil : i < r.C.length := (List.getElem?_eq_some_iff.1 hi).1
  refine ⟨fun g l hg => ?_, fun g l hg => ?_, ?_, own_keep h.o1 hk (fun g hg => off g _ (h.l1 g hg) (by simp)), own_keep h.o2 hk (fun g hg => off g _ (h.l2 g hg) (by simp)), ?_, relab_old hL h.lp, fun g hg => relab_old hL (h.l1 g hg), fun g hg => relab_old hL (h.l2 g hg), ?_, h.nm, fun j k hj => ?_, fun j k hj => ?_, fun g hg => (List.mem_append.1 hg).elim (ht.lt g) (fun h1 => Nat.lt_of_lt_of_le (h.fl g h1) hk.size)⟩
  · unfold relab at hg
    split at hg
    · rename_i h1; exact ht.lt g h1
    · exact Nat.lt_of_lt_of_le (h.lt g l hg) hk.size
  · unfold relab at hg
    split at hg
    · rename_i h1; exact List.mem_append_left _ h1
    · exact List.mem_append_right _ (h.inF g l hg)
  · show Blk w' p 39 #[_, _, .slice A3 (r.C.set i k').length c3, _]
    rw [List.length_set]
    exact h.bp.keep hk (off p _ h.lp (by simp))
  · show w'.ownsRow 0 63 1 (.slice A3 (r.C.set i k').length c3) (r.C.set i k').length _
    rw [List.length_set]
    exact own_keep h.o3 hk (fun g hg => off g _ (h.l3 g hg) (by simp))
  · show ∀ g ∈ fp (.slice A3 (r.C.set i k').length c3), _
    rw [List.length_set]
    exact fun g hg => relab_old hL (h.l3 g hg)
  · obtain ⟨G1, q1, h1, h2, h3⟩ := h.ts j k hj
    exact ⟨G1, q1, h1, h2.keep hk (fun g hg => off g _ (h3 g hg) (by simp)), fun g hg => relab_old hL (h3 g hg)⟩
  · have hj' : (r.C.set i k')[j]? = some k := hj
    rw [List.getElem?_set] at hj'
    by_cases e : i = j
    · subst e
      rw [if_pos rfl, if_pos hil] at hj'
      injection hj' with hj'
      subst hj'
      exact ⟨G', q, hq, ht, fun g hg => relab_in hg⟩
    · rw [if_neg e] at hj'
      obtain ⟨G1, q1, h1, h2, h3⟩ := h.ks j k hj'
      exact ⟨G1, q1, h1, h2.keep hk (fun g hg => off g _ (h3 g hg) (fun e1 => e (by injection e1 with e1; exact e1.symm))), fun g hg => relab_old hL (h3 g hg)⟩
/-- The count is turned. -/
theorem RmAt.count (h : RmAt w F p r L A1 A2 A3 c1 c2 c3 qs cs) (n : Int) : RmAt (w.setCell ⟨p, 3, none⟩ (.int .i64 n)) F p { r with n := n } L A1 A2 A3 c1 c2 c3 qs cs := by
  have hk : Keeps [p] w (w.setCell ⟨p, 3, none⟩ (.int .i64 n)) := (Keeps.refl _ w).setCell (.inl (by simp)) _
  have off : ∀ g l, L g = some l → l ≠ .me → g ∉ [p] := fun g l h1 h2 h3 => by
    rw [List.mem_singleton.1 h3, h.lp] at h1
    injection h1 with h1
    exact h2 h1.symm
  have o1 : p ∉ fp (.slice A1 r.N.length c1) := own_blk_off h.o1 h.bp (by omega)
  have o2 : p ∉ fp (.slice A2 r.M.length c2) := own_blk_off h.o2 h.bp (by omega)
  have o3 : p ∉ fp (.slice A3 r.C.length c3) := own_blk_off h.o3 h.bp (by omega)
  refine ⟨fun g l hg => Nat.lt_of_lt_of_le (h.lt g l hg) hk.size, h.inF, h.bp.set_ 3 _, own_far h.o1 o1 _, own_far h.o2 o2 _, own_far h.o3 o3 _, h.lp, h.l1, h.l2, h.l3, h.nm, fun i m hi => ?_, fun i k hi => ?_, fun g hg => Nat.lt_of_lt_of_le (h.fl g hg) hk.size⟩
  · obtain ⟨G1, q, h1, h2, h3⟩ := h.ts i m hi
    exact ⟨G1, q, h1, h2.keep hk (fun g hg => off g _ (h3 g hg) (by simp)), h3⟩
  · obtain ⟨G1, q, h1, h2, h3⟩ := h.ks i k hi
    exact ⟨G1, q, h1, h2.keep hk (fun g hg => off g _ (h3 g hg) (by simp)), h3⟩
end
end Go.Proofs.YteognipfnbocpaaGreat
