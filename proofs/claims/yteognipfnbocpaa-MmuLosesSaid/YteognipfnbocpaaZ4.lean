/- Two lists of entries compared; the plain law of MmuLoses. -/
import Derived.Test.YteognipfnbocpaaZ2
import Derived.Test.YteognipfnbocpaaZ3
namespace Go.Proofs.Yteognipfnbocpaa
open Go.RowKit
open T12 (E TbRep ent ents cells5 c5)
open T13 (Tl En TlRep es)

set_option maxHeartbeats 800000 in
theorem same_any (w : World) (v u : Value) (L : List (Nat × E)) (h1 : w.ownsRow 0 34 5 v L.length (cells5 L)) (h2 : w.ownsRow 0 34 5 u L.length (cells5 L)) :
    Calls Try.prog 16 #[v, u] w fun e w' => e = .returned (.bool true) ∧ Keeps [] w w' := by
  have hm := own_max h1
  unfold maxLen at hm
  obtain ⟨A, c, rfl, _, _, hA⟩ := own_shape h1
  obtain ⟨B, c2, rfl, _, _, hB⟩ := own_shape h2
  go_enter Try.func16, Try.ntmps16
  go_wp2
  go_loopw [5] (fun i wr => ∃ k : Nat, k ≤ L.length ∧ i = .int .i64 k ∧ Keeps [] w wr) (fun i _ => L.length - (intOf i).toNat)
  case atStart => exact ⟨0, by omega, rfl, Keeps.refl _ _⟩
  case round =>
    obtain ⟨k, hk, rfl, hkp⟩ := hrel
    by_cases hlt : k < L.length
    · obtain ⟨g, rfl⟩ := hA (by omega)
      obtain ⟨g2, rfl⟩ := hB (by omega)
      have hc := fun (j : Nat) (hj : j < 5) => cells5_at (j := j) hlt hj
      obtain ⟨⟨x0, x1, x2, x3, x4⟩, hx⟩ : ∃ x, x = L[k] := ⟨_, rfl⟩
      rw [← hx] at hc
      have o1 := own_keep h1 hkp (by simp)
      have o2 := own_keep h2 hkp (by simp)
      have a0 : wr.cell? ⟨g, k * 5, none⟩ = some (.int .i64 x0) := own_cell o1 (hc 0 (by omega))
      have a1 : wr.cell? ⟨g, k * 5 + 1, none⟩ = some (.int .i64 x1) := own_cell o1 (hc 1 (by omega))
      have a2 : wr.cell? ⟨g, k * 5 + 2, none⟩ = some (.bool x2) := own_cell o1 (hc 2 (by omega))
      have a3 : wr.cell? ⟨g, k * 5 + 3, none⟩ = some (.bool x3) := own_cell o1 (hc 3 (by omega))
      have a4 : wr.cell? ⟨g, k * 5 + 4, none⟩ = some (.bool x4) := own_cell o1 (hc 4 (by omega))
      have b0 : wr.cell? ⟨g2, k * 5, none⟩ = some (.int .i64 x0) := own_cell o2 (hc 0 (by omega))
      have b1 : wr.cell? ⟨g2, k * 5 + 1, none⟩ = some (.int .i64 x1) := own_cell o2 (hc 1 (by omega))
      have b2 : wr.cell? ⟨g2, k * 5 + 2, none⟩ = some (.bool x2) := own_cell o2 (hc 2 (by omega))
      have b3 : wr.cell? ⟨g2, k * 5 + 3, none⟩ = some (.bool x3) := own_cell o2 (hc 3 (by omega))
      have b4 : wr.cell? ⟨g2, k * 5 + 4, none⟩ = some (.bool x4) := own_cell o2 (hc 4 (by omega))
      have hi0 : (0 : Int) ≤ (k : Int) := by omega
      have hi1 : (k : Int) < (L.length : Int) := by omega
      clear hA hB h1 h2 hc o1 o2 hx
      go_wp2_with fail
      go_quiet (fail)
      go_wp2
      go_roundw
      case rel => exact ⟨k + 1, by omega, by go_num, hkp.drewN _⟩
      case measure => simp [intOf]; omega
    · go_wp2
      go_ret
      exact ⟨rfl, hkp⟩
/-- What is left of a table's entries when a frame is lost. -/
def lefts (fr : Int) (l : List (Nat × E)) : List (Nat × E) := l.filter (fun a => !decide (a.2.fr = fr))
theorem ents_lose (fr : Int) (m : Pg) : ∀ n, ents (loseT fr m) n = lefts fr (ents m n)
  | 0 => rfl
  | n + 1 => by
    have ih := ents_lose fr m n
    cases hm : m n with
    | none =>
      have h : loseT fr m n = none := by unfold loseT; rw [hm]
      rw [T12.ents_none h, T12.ents_none hm, ih]
    | some e =>
      rw [T12.ents_some hm]
      unfold lefts
      rw [List.filter_append]
      by_cases he : e.fr = fr
      · have h : loseT fr m n = none := by unfold loseT; rw [hm]; exact if_pos he
        rw [T12.ents_none h, ih]
        simp [he, lefts]
      · have h : loseT fr m n = some e := by unfold loseT; rw [hm]; exact if_neg he
        rw [T12.ents_some h, ih]
        simp [he, lefts]
theorem lefts_len (fr : Int) (l : List (Nat × E)) : (lefts fr l).length + hits fr l = l.length := by
  unfold lefts hits
  induction l with
  | nil => rfl
  | cons a r ih =>
    simp only [List.filter_cons]
    by_cases h : a.2.fr = fr
    · simp [h]; omega
    · simp [h]; omega
theorem lefts_snoc (fr : Int) (l : List (Nat × E)) (a : Nat × E) : lefts fr (l ++ [a]) = lefts fr l ++ if a.2.fr = fr then [] else [a] := by
  unfold lefts
  rw [List.filter_append]
  by_cases h : a.2.fr = fr <;> simp [h]
theorem tab_lose (s : Mm) (fr x : Int) : (s.lose fr).tab x = loseT fr (s.tab x) := by
  show ((s.t x).map (loseT fr)).getD pg0 = loseT fr ((s.t x).getD pg0)
  cases s.t x with
  | none => rfl
  | some m => rfl
/-- The sum of the hits over a list of spaces. -/
def sumH (s : Mm) (fr : Int) : List Int → Nat
  | [] => 0
  | x :: r => hits fr (ents (s.tab x) 256) + sumH s fr r
theorem sumH_app (s : Mm) (fr : Int) (l r : List Int) : sumH s fr (l ++ r) = sumH s fr l + sumH s fr r := by
  induction l with
  | nil => simp [sumH]
  | cons x t ih => simp only [List.cons_append, sumH, ih]; omega
theorem sumH_le (s : Mm) (fr : Int) (l : List Int) : sumH s fr l ≤ 256 * l.length := by
  induction l with
  | nil => exact Nat.le_refl _
  | cons x t ih =>
    have := hits_le fr (ents (s.tab x) 256)
    have := ents_bd (s.tab x)
    simp only [sumH, List.length_cons]
    omega
theorem sumH_perm (s : Mm) (fr : Int) {l r : List Int} (h : l.Perm r) : sumH s fr l = sumH s fr r := by
  induction h with
  | nil => rfl
  | cons x _ ih => simp only [sumH, ih]
  | swap x y l => simp only [sumH]; omega
  | trans _ _ ih1 ih2 => exact ih1.trans ih2
theorem sumH_filter (s : Mm) (fr : Int) (l : List Int) : sumH s fr (l.filter (hasE s)) = sumH s fr l := by
  induction l with
  | nil => rfl
  | cons x t ih =>
    rw [List.filter_cons]
    cases h : hasE s x with
    | true => simp only [if_pos, sumH, ih]
    | false =>
      have : (ents (s.tab x) 256).length = 0 := by unfold hasE at h; simpa using h
      have h2 := hits_le fr (ents (s.tab x) 256)
      rw [if_neg (by simp)]
      simp only [sumH, ih]
      omega
theorem hitT_tab (fr : Int) (o : Option Pg) : hitT fr o = hits fr (ents (o.getD pg0) 256) := by
  cases o with
  | none =>
    have h : ents pg0 256 = [] := ents_pg0_nil 256
    rw [show ((none : Option Pg).getD pg0) = pg0 from rfl, h]
    rfl
  | some m => rfl
theorem sumD_H (s : Mm) (fr : Int) (ks : List Int) : sumD fr s.t (fun _ => false) ks = sumH s fr ks := by
  induction ks with
  | nil => rfl
  | cons x r ih =>
    show (if false = true then 0 else hitT fr (s.t x)) + sumD fr s.t (fun _ => false) r = hits fr (ents ((s.t x).getD pg0) 256) + sumH s fr r
    rw [if_neg (by simp), hitT_tab, ih]
/-- Lose tells the sum over the spaces that have entries. -/
theorem sumD_spaces (s : Mm) (fr : Int) {ks l : List Int} (hn : ks.Nodup) (hks : ∀ x, (s.t x).isSome → x ∈ ks) (ha : Asc l) (hl : ∀ x, x ∈ l ↔ hasE s x = true) : sumD fr s.t (fun _ => false) ks = sumH s fr l := by
  rw [sumD_H, ← sumH_filter]
  refine sumH_perm s fr ((List.perm_ext_iff_of_nodup (hn.filter _) ?_).2 fun x => ?_)
  · exact ha.imp (fun h => by omega)
  · rw [List.mem_filter, hl]
    refine ⟨fun h => h.2, fun h => ⟨hks x ?_, h⟩⟩
    cases hs : s.t x with
    | some m => rfl
    | none =>
      unfold hasE Mm.tab at h
      rw [hs] at h
      have : ents pg0 256 = [] := ents_pg0_nil 256
      rw [show ((none : Option Pg).getD pg0) = pg0 from rfl, this] at h
      simp at h
/-- What is in the caches behind Lose and End. -/
theorem cache_gone (s : Mm) (fr x : Int) (i : Int) : ∀ e ∈ cacheL ((s.lose fr).end_ x) i, e.f ≠ fr ∧ e.s ≠ x := by
  intro e he
  unfold cacheL at he
  split at he
  · cases he
  · have e1 : ((s.lose fr).end_ x).C = (s.C.map (·.drop (fun e => e.f == fr))).map (·.drop (fun e => e.s == x)) := rfl
    rw [e1, List.getElem?_map, List.getElem?_map] at he
    cases hk : s.C[i.toNat]? with
    | none => rw [hk] at he; cases he
    | some k =>
      rw [hk] at he
      simp only [Option.map_some, Tl.drop, List.mem_filter] at he
      obtain ⟨⟨_, h1⟩, h2⟩ := he
      exact ⟨by simpa using h1, by simpa using h2⟩
theorem end_tab (s : Mm) (x : Int) : (s.end_ x).tab x = pg0 := by
  show ((updT s.t x none) x).getD pg0 = pg0
  unfold updT
  rw [if_pos rfl]
  rfl
end Go.Proofs.Yteognipfnbocpaa
