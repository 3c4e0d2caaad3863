/- Texts of elder seats, turned to this one. -/
import Derived.Test.YteognipfnbocpaaGreatT12A
import Derived.Test.YteognipfnbocpaaGreatT13B
import Derived.Test.YteognipfnbocpaaGreatMpp
namespace Go.Proofs.YteognipfnbocpaaGreat
open Go.RowKit
open T12 (E TbRep ent mapM mapN wlkM wlkB wlkN unmM clrM clrB)
open T13 (Tl En TlRep)

abbrev Pg := Nat → Option E
def pg0 : Pg := fun _ => none
/-- The Mmu: the table of a space, the caches, the count of shootdowns; how often the map was written (seen by nobody). -/
structure Mm where
  t : Int → Option Pg
  C : List Tl
  n : Int
  k : Nat
def Mm.tab (s : Mm) (x : Int) : Pg := (s.t x).getD pg0
def updT (t : Int → Option Pg) (x : Int) (o : Option Pg) : Int → Option Pg := fun y => if y = x then o else t y
/-- Whose a block is. -/
inductive Lb where
  | me
  | tb (x : Int)
  | cl (i : Nat)
deriving DecidableEq
def pv (r : Nat) : Value := .pointer (some ⟨r, 0, none⟩)
/-- The Mmu s lies at block p; q: where a space's table lies; c: where the caches lie. -/
structure MmAt (w : World) (F : List Nat) (p : Nat) (s : Mm) (L : Nat → Option Lb) (b nb : Nat) (q : Int → Option Nat) (A : Option Addr) (cap : Nat) (c : List Nat) : Prop where
  lt : ∀ g l, L g = some l → g < w.heap.size
  inF : ∀ g l, L g = some l → g ∈ F
  bp : Blk w p 60 #[.map (some b), .slice A s.C.length cap, .int .i64 s.n]
  bm : PMap w b nb q
  bo : w.ownsRow 0 61 1 (.slice A s.C.length cap) s.C.length (c.map pv)
  lp : L p = some .me
  lb : L b = some .me
  lA : ∀ g ∈ fp (.slice A s.C.length cap), L g = some .me
  qn : ∀ x, s.t x = none → q x = none
  qs : ∀ x m, s.t x = some m → ∃ G r, q x = some r ∧ TbRep w G r m ∧ ∀ g ∈ G, L g = some (.tb x)
  cs : ∀ i k, s.C[i]? = some k → ∃ G r, c[i]? = some r ∧ TlRep 95 w G r k ∧ ∀ g ∈ G, L g = some (.cl i)
  ix : ∀ x, (q x).isSome → -9223372036854775808 ≤ x ∧ x ≤ 9223372036854775807
  fl : ∀ g ∈ F, g < w.heap.size
def MmRep (w : World) (F : List Nat) (p : Nat) (s : Mm) : Prop := ∃ L b nb q A cap c, MmAt w F p s L b nb q A cap c ∧ nb ≤ s.k
/-- What an operation leaves: the Mmu s, at blocks of F or new ones. -/
def MmNext (w w' : World) (F : List Nat) (p : Nat) (s : Mm) : Prop := ∃ F', MmRep w' F' p s ∧ Keeps F w w' ∧ ∀ g ∈ F', g ∈ F ∨ w.heap.size ≤ g
section
variable {w w' : World} {F G : List Nat} {p : Nat} {s : Mm} {L : Nat → Option Lb} {b nb : Nat} {q : Int → Option Nat} {A : Option Addr} {cap : Nat} {c : List Nat}
theorem MmAt.clen (h : MmAt w F p s L b nb q A cap c) : c.length = s.C.length := by have := h.bo.1; simpa using this
theorem MmAt.p_b (h : MmAt w F p s L b nb q A cap c) : b ≠ p := h.bm.ne_blk h.bp
theorem MmAt.p_A (h : MmAt w F p s L b nb q A cap c) : p ∉ fp (.slice A s.C.length cap) := own_blk_off h.bo h.bp (by omega)
theorem MmAt.b_A (h : MmAt w F p s L b nb q A cap c) : b ∉ fp (.slice A s.C.length cap) := h.bm.off h.bo
/-- Nothing of the Mmu is turned. -/
theorem MmAt.keep (h : MmAt w F p s L b nb q A cap c) (hk : Keeps G w w') (hd : ∀ g l, L g = some l → g ∉ G) : MmAt w' F p s L b nb q A cap c := by
  refine ⟨fun g l hg => Nat.lt_of_lt_of_le (h.lt g l hg) hk.size, h.inF, h.bp.keep hk (hd p _ h.lp), h.bm.keep hk (hd b _ h.lb), own_keep h.bo hk (fun g hg => hd g _ (h.lA g hg)), h.lp, h.lb, h.lA, h.qn, fun x m hx => ?_, fun i k hi => ?_, h.ix, fun g hg => Nat.lt_of_lt_of_le (h.fl g hg) hk.size⟩
  · obtain ⟨G1, r, h1, h2, h3⟩ := h.qs x m hx
    exact ⟨G1, r, h1, h2.keep hk (fun g hg => hd g _ (h3 g hg)), h3⟩
  · obtain ⟨G1, r, h1, h2, h3⟩ := h.cs i k hi
    exact ⟨G1, r, h1, h2.keep hk (fun g hg => hd g _ (h3 g hg)), h3⟩
/-- The labels behind a change of one owner's blocks. -/
def relab (L : Nat → Option Lb) (G : List Nat) (l : Lb) : Nat → Option Lb := fun g => if g ∈ G then some l else L g
theorem relab_in {g : Nat} {l : Lb} (h : g ∈ G) : relab L G l g = some l := if_pos h
theorem relab_old {g : Nat} {l k : Lb} (hG : ∀ g ∈ G, L g = some l ∨ L g = none) (h : L g = some k) : relab L G l g = some k := by
  unfold relab
  split
  · rename_i hg
    rcases hG g hg with h1 | h1
    · rw [h1] at h; exact h
    · rw [h1] at h; cases h
  · exact h
/-- A table is turned. -/
theorem MmAt.table (h : MmAt w F p s L b nb q A cap c) {x : Int} {m m' : Pg} {G G' : List Nat} {r : Nat} (hx : s.t x = some m) (hr : q x = some r) (hG : ∀ g ∈ G, L g = some (.tb x)) (hk : Keeps G w w') (ht : TbRep w' G' r m') (hG' : ∀ g ∈ G', g ∈ G ∨ w.heap.size ≤ g) :
    MmAt w' (G' ++ F) p { s with t := updT s.t x (some m') } (relab L G' (.tb x)) b nb q A cap c := by
  have hL : ∀ g ∈ G', L g = some (.tb x) ∨ L g = none := fun g hg => by
    rcases hG' g hg with h1 | h1
    · exact .inl (hG g h1)
    · right
      cases hl : L g with
      | none => rfl
      | some l => have := h.lt g l hl; omega
  have off : ∀ g l, L g = some l → l ≠ .tb x → g ∉ G := fun g l h1 h2 h3 => by rw [hG g h3] at h1; injection h1 with h1; exact h2 h1.symm
  refine ⟨fun g l hg => ?_, fun g l hg => ?_, h.bp.keep hk (off p _ h.lp (by simp)), h.bm.keep hk (off b _ h.lb (by simp)), own_keep h.bo hk (fun g hg => off g _ (h.lA g hg) (by simp)), relab_old hL h.lp, relab_old hL h.lb, fun g hg => relab_old hL (h.lA g hg), fun y hy => ?_, fun y k hy => ?_, fun i k hi => ?_, h.ix, fun g hg => (List.mem_append.1 hg).elim (ht.lt g) (fun h1 => Nat.lt_of_lt_of_le (h.fl g h1) hk.size)⟩
  · unfold relab at hg
    split at hg
    · rename_i h1; exact ht.lt g h1
    · exact Nat.lt_of_lt_of_le (h.lt g l hg) hk.size
  · unfold relab at hg
    split at hg
    · rename_i h1; exact List.mem_append_left _ h1
    · exact List.mem_append_right _ (h.inF g l hg)
  · simp only [updT] at hy
    split at hy
    · cases hy
    · exact h.qn y hy
  · simp only [updT] at hy
    by_cases e : y = x
    · subst e
      rw [if_pos rfl] at hy
      injection hy with hy
      subst hy
      exact ⟨G', r, hr, ht, fun g hg => relab_in hg⟩
    · rw [if_neg e] at hy
      obtain ⟨G1, r1, h1, h2, h3⟩ := h.qs y k hy
      exact ⟨G1, r1, h1, h2.keep hk (fun g hg => off g _ (h3 g hg) (fun e1 => e (by injection e1))), fun g hg => relab_old hL (h3 g hg)⟩
  · obtain ⟨G1, r1, h1, h2, h3⟩ := h.cs i k hi
    exact ⟨G1, r1, h1, h2.keep hk (fun g hg => off g _ (h3 g hg) (by simp)), fun g hg => relab_old hL (h3 g hg)⟩
/-- A cache is turned. -/
theorem MmAt.cache (h : MmAt w F p s L b nb q A cap c) {i : Nat} {k k' : Tl} {G G' : List Nat} {r : Nat} (hi : s.C[i]? = some k) (hr : c[i]? = some r) (hG : ∀ g ∈ G, L g = some (.cl i)) (hk : Keeps G w w') (ht : TlRep 95 w' G' r k') (hG' : ∀ g ∈ G', g ∈ G ∨ w.heap.size ≤ g) :
    MmAt w' (G' ++ F) p { s with C := s.C.set i k' } (relab L G' (.cl i)) b nb q A cap c := by
  have hL : ∀ g ∈ G', L g = some (.cl i) ∨ L g = none := fun g hg => by
    rcases hG' g hg with h1 | h1
    · exact .inl (hG g h1)
    · right
      cases hl : L g with
      | none => rfl
      | some l => have := h.lt g l hl; omega
  have off : ∀ g l, L g = some l → l ≠ .cl i → g ∉ G := fun g l h1 h2 h3 => by rw [hG g h3] at h1; injection h1 with h1; exact h2 h1.symm
  have hil : i < s.C.length := (List.getElem?_eq_some_iff.1 hi).1
  refine ⟨fun g l hg => ?_, fun g l hg => ?_, ?_, h.bm.keep hk (off b _ h.lb (by simp)), ?_, relab_old hL h.lp, relab_old hL h.lb, ?_, h.qn, fun y m hy => ?_, fun j m hj => ?_, h.ix, fun g hg => (List.mem_append.1 hg).elim (ht.lt g) (fun h1 => Nat.lt_of_lt_of_le (h.fl g h1) hk.size)⟩
  · unfold relab at hg
    split at hg
    · rename_i h1; exact ht.lt g h1
    · exact Nat.lt_of_lt_of_le (h.lt g l hg) hk.size
  · unfold relab at hg
    split at hg
    · rename_i h1; exact List.mem_append_left _ h1
    · exact List.mem_append_right _ (h.inF g l hg)
  · show Blk w' p 60 #[_, .slice A (s.C.set i k').length cap, _]
    rw [List.length_set]
    exact h.bp.keep hk (off p _ h.lp (by simp))
  · show w'.ownsRow 0 61 1 (.slice A (s.C.set i k').length cap) (s.C.set i k').length _
    rw [List.length_set]
    exact own_keep h.bo hk (fun g hg => off g _ (h.lA g hg) (by simp))
  · show ∀ g ∈ fp (.slice A (s.C.set i k').length cap), _
    rw [List.length_set]
    exact fun g hg => relab_old hL (h.lA g hg)
  · obtain ⟨G1, r1, h1, h2, h3⟩ := h.qs y m hy
    exact ⟨G1, r1, h1, h2.keep hk (fun g hg => off g _ (h3 g hg) (by simp)), fun g hg => relab_old hL (h3 g hg)⟩
  · have hj' : (s.C.set i k')[j]? = some m := hj
    rw [List.getElem?_set] at hj'
    by_cases e : i = j
    · subst e
      rw [if_pos rfl, if_pos hil] at hj'
      injection hj' with hj'
      subst hj'
      exact ⟨G', r, hr, ht, fun g hg => relab_in hg⟩
    · rw [if_neg e] at hj'
      obtain ⟨G1, r1, h1, h2, h3⟩ := h.cs j m hj'
      exact ⟨G1, r1, h1, h2.keep hk (fun g hg => off g _ (h3 g hg) (fun e1 => e (by injection e1 with e1; exact e1.symm))), fun g hg => relab_old hL (h3 g hg)⟩
/-- The count is turned. -/
theorem MmAt.count (h : MmAt w F p s L b nb q A cap c) (n : Int) : MmAt (w.setCell ⟨p, 2, none⟩ (.int .i64 n)) F p { s with n := n } L b nb q A cap c := by
  have hk : Keeps [p] w (w.setCell ⟨p, 2, none⟩ (.int .i64 n)) := (Keeps.refl _ w).setCell (.inl (by simp)) _
  have off : ∀ g l, L g = some l → l ≠ .me → g ∉ [p] := fun g l h1 h2 h3 => by
    rw [List.mem_singleton.1 h3, h.lp] at h1
    injection h1 with h1
    exact h2 h1.symm
  refine ⟨fun g l hg => Nat.lt_of_lt_of_le (h.lt g l hg) hk.size, h.inF, h.bp.set_ 2 _, h.bm.keep hk (by simpa using h.p_b), own_keep h.bo hk (fun g hg h1 => h.p_A (by rw [List.mem_singleton.1 h1] at hg; exact hg)), h.lp, h.lb, h.lA, h.qn, fun x m hx => ?_, fun i k hi => ?_, h.ix, fun g hg => Nat.lt_of_lt_of_le (h.fl g hg) hk.size⟩
  · obtain ⟨G1, r, h1, h2, h3⟩ := h.qs x m hx
    exact ⟨G1, r, h1, h2.keep hk (fun g hg => off g _ (h3 g hg) (by simp)), h3⟩
  · obtain ⟨G1, r, h1, h2, h3⟩ := h.cs i k hi
    exact ⟨G1, r, h1, h2.keep hk (fun g hg => off g _ (h3 g hg) (by simp)), h3⟩
/-- A table is laid into the map, at a space that has none. -/
theorem MmAt.lay (h : MmAt w F p s L b nb q A cap c) {x : Int} {m : Pg} {G : List Nat} {r nb' : Nat} (hx : s.t x = none) (hG : ∀ g ∈ G, L g = none) (hk : Keeps [b] w w') (hm : PMap w' b nb' (updP q x (some r))) (ht : TbRep w' G r m) (h1 : -9223372036854775808 ≤ x) (h2 : x ≤ 9223372036854775807) :
    MmAt w' (G ++ F) p { s with t := updT s.t x (some m) } (relab L G (.tb x)) b nb' (updP q x (some r)) A cap c := by
  have hL : ∀ g ∈ G, L g = some (.tb x) ∨ L g = none := fun g hg => .inr (hG g hg)
  have off : ∀ g l, L g = some l → l ≠ .me → g ∉ [b] := fun g l h1 h2 h3 => by
    rw [List.mem_singleton.1 h3, h.lb] at h1
    injection h1 with h1
    exact h2 h1.symm
  refine ⟨fun g l hg => ?_, fun g l hg => ?_, h.bp.keep hk (by simpa using h.p_b.symm), hm, own_keep h.bo hk (fun g hg h1 => h.b_A (by rw [List.mem_singleton.1 h1] at hg; exact hg)), relab_old hL h.lp, relab_old hL h.lb, fun g hg => relab_old hL (h.lA g hg), fun y hy => ?_, fun y k hy => ?_, fun i k hi => ?_, fun y hy => ?_, fun g hg => (List.mem_append.1 hg).elim (ht.lt g) (fun h1 => Nat.lt_of_lt_of_le (h.fl g h1) hk.size)⟩
  · unfold relab at hg
    split at hg
    · rename_i h1; exact ht.lt g h1
    · exact Nat.lt_of_lt_of_le (h.lt g l hg) hk.size
  · unfold relab at hg
    split at hg
    · rename_i h1; exact List.mem_append_left _ h1
    · exact List.mem_append_right _ (h.inF g l hg)
  · simp only [updT] at hy
    unfold updP
    by_cases e : y = x
    · subst e; rw [if_pos rfl] at hy; cases hy
    · rw [if_neg e] at hy ⊢; exact h.qn y hy
  · simp only [updT] at hy
    unfold updP
    by_cases e : y = x
    · subst e
      rw [if_pos rfl] at hy
      injection hy with hy
      subst hy
      exact ⟨G, r, if_pos rfl, ht, fun g hg => relab_in hg⟩
    · rw [if_neg e] at hy
      obtain ⟨G1, r1, h1, h2, h3⟩ := h.qs y k hy
      exact ⟨G1, r1, by rw [if_neg e]; exact h1, h2.keep hk (fun g hg => off g _ (h3 g hg) (by simp)), fun g hg => relab_old hL (h3 g hg)⟩
  · obtain ⟨G1, r1, h1, h2, h3⟩ := h.cs i k hi
    exact ⟨G1, r1, h1, h2.keep hk (fun g hg => off g _ (h3 g hg) (by simp)), fun g hg => relab_old hL (h3 g hg)⟩
  · unfold updP at hy
    by_cases e : y = x
    · subst e; exact ⟨h1, h2⟩
    · rw [if_neg e] at hy; exact h.ix y hy
/-- A table is struck out of the map. -/
theorem MmAt.strike (h : MmAt w F p s L b nb q A cap c) {x : Int} (hk : Keeps [b] w w') (hm : PMap w' b nb (updP q x none)) :
    MmAt w' F p { s with t := updT s.t x none } L b nb (updP q x none) A cap c := by
  have off : ∀ g l, L g = some l → l ≠ .me → g ∉ [b] := fun g l h1 h2 h3 => by
    rw [List.mem_singleton.1 h3, h.lb] at h1
    injection h1 with h1
    exact h2 h1.symm
  refine ⟨fun g l hg => Nat.lt_of_lt_of_le (h.lt g l hg) hk.size, h.inF, h.bp.keep hk (by simpa using h.p_b.symm), hm, own_keep h.bo hk (fun g hg h1 => h.b_A (by rw [List.mem_singleton.1 h1] at hg; exact hg)), h.lp, h.lb, h.lA, fun y hy => ?_, fun y k hy => ?_, fun i k hi => ?_, fun y hy => ?_, fun g hg => Nat.lt_of_lt_of_le (h.fl g hg) hk.size⟩
  · simp only [updT] at hy
    unfold updP
    by_cases e : y = x
    · subst e; rw [if_pos rfl]
    · rw [if_neg e] at hy ⊢; exact h.qn y hy
  · simp only [updT] at hy
    unfold updP
    by_cases e : y = x
    · subst e; rw [if_pos rfl] at hy; cases hy
    · rw [if_neg e] at hy ⊢
      obtain ⟨G1, r1, h1, h2, h3⟩ := h.qs y k hy
      exact ⟨G1, r1, h1, h2.keep hk (fun g hg => off g _ (h3 g hg) (by simp)), h3⟩
  · obtain ⟨G1, r1, h1, h2, h3⟩ := h.cs i k hi
    exact ⟨G1, r1, h1, h2.keep hk (fun g hg => off g _ (h3 g hg) (by simp)), h3⟩
  · unfold updP at hy
    by_cases e : y = x
    · subst e; rw [if_pos rfl] at hy; cases hy
    · rw [if_neg e] at hy; exact h.ix y hy
theorem MmRep.lt (h : MmRep w F p s) : ∀ g ∈ F, g < w.heap.size := by
  obtain ⟨L, b, nb, q, A, cap, c, h, hn⟩ := h
  exact h.fl
theorem MmRep.keep (h : MmRep w F p s) (hk : Keeps G w w') (hd : ∀ g ∈ F, g ∉ G) : MmRep w' F p s := by
  obtain ⟨L, b, nb, q, A, cap, c, h, hn⟩ := h
  exact ⟨L, b, nb, q, A, cap, c, h.keep hk (fun g l hg => hd g (h.inF g l hg)), hn⟩
end
end Go.Proofs.YteognipfnbocpaaGreat
