/- The reference's Lose. -/
import Derived.Test.YteognipfnbocpaaGreatQ16
namespace Go.Proofs.YteognipfnbocpaaGreat
open Go.RowKit
open T12 (E TbRep RfRep ent ents cells5 mapM mapN wlkM wlkB wlkN unmM clrM clrB lookX)
open T13 (Tl En TlRep es Nd)

/-- Table i opened: where it lies, and what becomes of the whole when it is turned. -/
theorem RmN.tabAt {w0 w : World} {F0 : List Nat} {p : Nat} {r : Rm} (h : RmN w0 F0 w p r) {i : Nat} {m : Pg} (hi : r.M[i]? = some m) :
    ∃ g c2 G q, w.cell? ⟨p, 1, none⟩ = some (.slice (some ⟨g, 0, none⟩) r.M.length c2) ∧ w.cell? ⟨g, i, none⟩ = some (.pointer (some ⟨q, 0, none⟩)) ∧ RfRep w G q m ∧
      ∀ w' m', (∃ G', RfRep w' G' q m' ∧ Keeps G w w' ∧ ∀ g ∈ G', g ∈ G ∨ w.heap.size ≤ g) → RmN w0 F0 w' p { r with M := r.M.set i m' } := by
  obtain ⟨F, ⟨L, A1, A2, A3, c1, c2, c3, qs, cs, h⟩, h2, h3⟩ := h
  have hil : i < r.M.length := (List.getElem?_eq_some_iff.1 hi).1
  obtain ⟨_, _, hv, -, -, hA⟩ := own_shape h.o2
  obtain ⟨rfl, -, rfl⟩ : A2 = _ ∧ r.M.length = _ ∧ c2 = _ := by injection hv with h1 h2 h3; exact ⟨h1, rfl, h3⟩
  obtain ⟨g, rfl⟩ := hA (by omega)
  obtain ⟨G, q, hq, ht, hG⟩ := h.ts i m hi
  refine ⟨g, _, G, q, h.bp.cell 1, own_cell h.o2 (by rw [List.getElem?_map, hq]; rfl), ht, fun w' m' hn => ?_⟩
  obtain ⟨G', ht', k1, hG'⟩ := hn
  have hs := h2.size
  have hGF : ∀ g ∈ G, g ∈ F := fun g hg => h.inF _ _ (hG g hg)
  refine ⟨G' ++ F, ⟨_, _, _, _, _, _, _, _, _, h.table hi hq hG k1 ht' hG'⟩, h2.trans k1 (fun g hg => h3 g (hGF g hg)), fun g hg => ?_⟩
  rcases List.mem_append.1 hg with h4 | h4
  · rcases hG' g h4 with h5 | h5
    · exact h3 g (hGF g h5)
    · right; omega
  · exact h3 g h4
theorem RmN.rebase {w0 w w' : World} {F0 : List Nat} {p : Nat} {r : Rm} (h : RmN w0 F0 w p r) (hk : Keeps [] w w') :
    ∃ F1, (∀ g ∈ F1, g < w.heap.size) ∧ RmN w' F1 w' p r ∧ ∀ w'' r'', RmN w' F1 w'' p r'' → RmN w0 F0 w'' p r'' := by
  obtain ⟨F, h1, h2, h3⟩ := h
  have hs := h2.size
  have hs2 := hk.size
  refine ⟨F, h1.lt, ⟨F, h1.keep hk (by simp), Keeps.refl _ _, fun g hg => .inl hg⟩, fun w'' r'' h4 => ?_⟩
  obtain ⟨F2, a, b, c⟩ := h4
  exact ⟨F2, a, (h2.trans hk (by simp)).trans b h3, fun g hg => (c g hg).elim (h3 g) (fun h => .inr (by omega))⟩
/-- The hits over a list of tables. -/
def sumM (fr : Int) : List Pg → Nat
  | [] => 0
  | m :: r => hits fr (ents m 256) + sumM fr r
theorem sumM_snoc (fr : Int) (l : List Pg) (m : Pg) : sumM fr (l ++ [m]) = sumM fr l + hits fr (ents m 256) := by
  induction l with
  | nil => simp [sumM]
  | cons a r ih => simp only [List.cons_append, sumM, ih]; omega
theorem sumM_le (fr : Int) (l : List Pg) : sumM fr l ≤ 256 * l.length := by
  induction l with
  | nil => exact Nat.le_refl _
  | cons m r ih =>
    have := hits_le fr (ents m 256)
    have := ents_bd m
    simp only [sumM, List.length_cons]
    omega
theorem sumM_H (T : Int → Pg) (fr : Int) (l : List Int) : sumM fr (l.map T) = sumH T fr l := by
  induction l with
  | nil => rfl
  | cons x r ih => simp only [List.map_cons, sumM, sumH, ih]
theorem tabs_map {r : Rm} (ha : Asc r.N) (hl : r.N.length = r.M.length) : r.N.map r.tab = r.M := by
  refine List.ext_getElem (by simpa using hl) (fun i h1 h2 => ?_)
  rw [List.getElem_map]
  exact tab_self ha (by simpa using h1) (List.getElem?_eq_getElem h2)
/-- The state when i tables are done. -/
def Rm.lost (r : Rm) (fr : Int) (i : Nat) : Rm := { r with M := (r.M.take i).map (loseT fr) ++ r.M.drop i }
theorem lost_zero (r : Rm) (fr : Int) : r.lost fr 0 = r := by simp [Rm.lost]
theorem lost_len (r : Rm) (fr : Int) (i : Nat) : (r.lost fr i).M.length = r.M.length := by simp [Rm.lost]; omega
theorem lost_at {r : Rm} {fr : Int} {i : Nat} {m : Pg} (h : r.M[i]? = some m) : (r.lost fr i).M[i]? = some m := by
  have hi := (List.getElem?_eq_some_iff.1 h).1
  show ((r.M.take i).map (loseT fr) ++ r.M.drop i)[i]? = some m
  rw [List.getElem?_append_right (by simp; omega), List.getElem?_drop]
  simp only [List.length_map, List.length_take]
  rw [show i + (i - min i r.M.length) = i by omega]
  exact h
theorem lost_step {r : Rm} {fr : Int} {i : Nat} {m : Pg} (h : r.M[i]? = some m) : ({ (r.lost fr i) with M := (r.lost fr i).M.set i (loseT fr m) } : Rm) = r.lost fr (i + 1) := by
  obtain ⟨hi, rfl⟩ := List.getElem?_eq_some_iff.1 h
  have e1 : r.M.take (i + 1) = r.M.take i ++ [r.M[i]] := List.take_succ_eq_append_getElem hi
  have e2 : r.M.drop i = r.M[i] :: r.M.drop (i + 1) := (List.drop_eq_getElem_cons hi)
  unfold Rm.lost
  rw [e1, e2]
  have e3 : ((r.M.take i).map (loseT fr)).length = i := by simp; omega
  have e4 : ((r.M.take i).map (loseT fr) ++ r.M[i] :: r.M.drop (i + 1)).set i (loseT fr r.M[i]) = (r.M.take i ++ [r.M[i]]).map (loseT fr) ++ r.M.drop (i + 1) := by
    rw [List.set_append_right _ _ (by omega), e3, Nat.sub_self, List.set_cons_zero, List.map_append]
    simp only [List.map_cons, List.map_nil, List.append_assoc, List.singleton_append]
  show Rm.mk r.N (((r.M.take i).map (loseT fr) ++ r.M[i] :: r.M.drop (i + 1)).set i (loseT fr r.M[i])) r.C r.n = Rm.mk r.N _ r.C r.n
  rw [e4]
theorem lose_pg0 (fr : Int) : loseT fr pg0 = pg0 := rfl
theorem LoseS.done {r : Rm} (ha : r.N.length = r.M.length) (fr : Int) : LoseS r fr ((r.lost fr r.M.length).shoot (fun e => e.f == fr)) := by
  have hM : (r.lost fr r.M.length).M = r.M.map (loseT fr) := by simp [Rm.lost]
  refine ⟨fun y => ?_, rfl, rfl, rfl, ?_⟩
  · show (r.lost fr r.M.length).tab y = _
    have hi : (r.lost fr r.M.length).ix y = r.ix y := rfl
    unfold Rm.tab
    rw [hi]
    cases hy : r.ix y with
    | none => rfl
    | some j =>
      obtain ⟨hj, _⟩ := rix_lt hy
      show ((r.lost fr r.M.length).M[j]?).getD pg0 = loseT fr ((r.M[j]?).getD pg0)
      rw [hM, List.getElem?_map, List.getElem?_eq_getElem (by omega)]
      rfl
  · show r.N.length = (r.lost fr r.M.length).M.length
    rw [hM, List.length_map, ha]
/-- The state in the midst of table i. -/
def Rm.lostJ (r : Rm) (fr : Int) (i : Nat) (m : Pg) (l : List (Nat × E)) : Rm := { (r.lost fr i) with M := (r.lost fr i).M.set i (loseJ fr m l) }
theorem set_self {α : Type} {l : List α} {i : Nat} {x : α} (h : l[i]? = some x) : l.set i x = l := by
  obtain ⟨hi, rfl⟩ := List.getElem?_eq_some_iff.1 h
  exact List.set_getElem_self hi
theorem lostJ_nil {r : Rm} {fr : Int} {i : Nat} {m : Pg} (h : r.M[i]? = some m) : r.lostJ fr i m [] = r.lost fr i := by
  unfold Rm.lostJ
  rw [loseJ_nil, set_self (lost_at h)]
theorem lostJ_at {r : Rm} {fr : Int} {i : Nat} {m : Pg} (h : r.M[i]? = some m) (l : List (Nat × E)) : (r.lostJ fr i m l).M[i]? = some (loseJ fr m l) := by
  have hi := (List.getElem?_eq_some_iff.1 h).1
  show ((r.lost fr i).M.set i _)[i]? = _
  rw [List.getElem?_set, if_pos rfl, if_pos (by rw [lost_len]; exact hi)]
theorem lostJ_set {r : Rm} {fr : Int} {i : Nat} {m : Pg} (l : List (Nat × E)) (m' : Pg) : ({ (r.lostJ fr i m l) with M := (r.lostJ fr i m l).M.set i m' } : Rm) = { (r.lost fr i) with M := (r.lost fr i).M.set i m' } := by
  unfold Rm.lostJ
  simp
theorem lostJ_len (r : Rm) (fr : Int) (i : Nat) (m : Pg) (l : List (Nat × E)) : (r.lostJ fr i m l).M.length = r.M.length := by
  show ((r.lost fr i).M.set i _).length = _
  rw [List.length_set, lost_len]
def LoseP (w : World) (F : List Nat) (p : Nat) (r : Rm) (fr : Int) (e : Ending) (w' : World) : Prop := ∃ r', e = .returned (.int .i64 (sumH r.tab fr r.N : Nat)) ∧ RmN w F w' p r' ∧ LoseS r fr r'
end Go.Proofs.YteognipfnbocpaaGreat
