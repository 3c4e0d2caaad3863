/- Reads. -/
import Derived.Test.YtbllmpcpfmlemaaGreatZ1
namespace Go.Proofs.YtbllmpcpfmlemaaGreat
open Go.RowKit

def kindR : Rd → Int
  | .cell _ _ => 0
  | .keys _ _ => 1
def keyR : Rd → Str
  | .cell k _ => k
  | .keys p _ => p
def valR : Rd → Str
  | .cell _ v => v
  | .keys _ _ => []
def lstR : Rd → List Str
  | .cell _ _ => []
  | .keys _ l => l
/-- The reads l lie at v. -/
def RdAt (w : World) (v : Value) (l : List Rd) : Prop :=
  ∃ xs : List Value, w.ownsRow 0 34 4 v l.length xs ∧ ∀ k (h : k < l.length), xs[k * 4]? = some (.int .i64 (kindR l[k])) ∧ xs[k * 4 + 1]? = some (sv (keyR l[k])) ∧ xs[k * 4 + 2]? = some (sv (valR l[k])) ∧ ∃ u, xs[k * 4 + 3]? = some u ∧ w.ownsRow 0 9 1 u (lstR l[k]).length (vs (lstR l[k]))
theorem RdAt.keep0 {w w' : World} {v : Value} {l : List Rd} (h : RdAt w v l) (hk : Keeps [] w w') : RdAt w' v l := by
  obtain ⟨xs, h1, h2⟩ := h
  refine ⟨xs, own_keep h1 hk (by simp), fun k hl => ?_⟩
  obtain ⟨a, b, c, u, d, e⟩ := h2 k hl
  exact ⟨a, b, c, u, d, own_keep e hk (by simp)⟩
theorem OneAt.rds {w : World} {M : Mem} {pp : Option Nat} {nk : Nat} {x : One} (o : OneAt w M pp nk x) {W : World} (hk : Keeps [] w W) {v : Value} (hv : W.ownsRow 0 34 4 v x.rd.length (rw (rdC M.sl) x.rd)) : RdAt W v x.rd := by
  refine ⟨_, hv, fun k hl => ?_⟩
  have hc : ∀ j, j < 4 → (rw (rdC M.sl) x.rd)[k * 4 + j]? = (rdC M.sl x.rd[k])[j]? := fun j hj => rw_at (rdC_len M.sl) hl hj
  have h0 := hc 0 (by omega)
  have h1 := hc 1 (by omega)
  have h2 := hc 2 (by omega)
  have h3 := hc 3 (by omega)
  rw [Nat.add_zero] at h0
  rw [h0, h1, h2, h3]
  have hm := List.getElem_mem hl
  generalize x.rd[k] = r at hm
  cases r with
  | cell a b => exact ⟨rfl, rfl, rfl, _, rfl, World.ownsRow_nil _ _ _ _⟩
  | keys p l => exact ⟨rfl, rfl, rfl, _, rfl, own_keep (o.s p l hm) hk (by simp)⟩
theorem RdAt.set {w w' : World} {g n d : Nat} {l : List Rd} {xs : List Value} (hn : n = l.length) (ho : w.ownsRow 0 34 4 (.slice (some ⟨g, 0, none⟩) n d) n xs) (h : ∀ k (h : k < l.length), xs[k * 4]? = some (.int .i64 (kindR l[k])) ∧ xs[k * 4 + 1]? = some (sv (keyR l[k])) ∧ xs[k * 4 + 2]? = some (sv (valR l[k])) ∧ ∃ u, xs[k * 4 + 3]? = some u ∧ w.ownsRow 0 9 1 u (lstR l[k]).length (vs (lstR l[k])))
    {k : Nat} (hk : k < l.length) {u : Value} (hu : w.ownsRow 0 9 1 u (lstR l[k]).length (vs (lstR l[k]))) (hw : w' = w.setCell ⟨g, k * 4 + 3, none⟩ u) : RdAt w' (.slice (some ⟨g, 0, none⟩) n d) l := by
  subst hw
  have hko : ∀ {m : Nat} {v : Value} {ys : List Value}, w.ownsRow 0 9 1 v m ys → (w.setCell ⟨g, k * 4 + 3, none⟩ u).ownsRow 0 9 1 v m ys := fun hv => own_far hv (fun hg => off_ty hv ho (by decide) g hg (by simp [fp, Value.ownBlock])) u
  refine ⟨_, by rw [← hn]; exact own_set ho (k * 4 + 3) u, fun j hj => ?_⟩
  obtain ⟨a, b, c, v, e, f⟩ := h j hj
  have hx : k * 4 + 3 < xs.length := by
    obtain ⟨_, _, _, v', e', _⟩ := h k hk
    exact (List.getElem?_eq_some_iff.1 e').1
  refine ⟨by rw [List.getElem?_set_ne (by omega)]; exact a, by rw [List.getElem?_set_ne (by omega)]; exact b, by rw [List.getElem?_set_ne (by omega)]; exact c, ?_⟩
  by_cases hjk : j = k
  · subst hjk
    exact ⟨u, List.getElem?_set_self hx, hko hu⟩
  · exact ⟨v, by rw [List.getElem?_set_ne (by omega)]; exact e, hko f⟩
end Go.Proofs.YtbllmpcpfmlemaaGreat
