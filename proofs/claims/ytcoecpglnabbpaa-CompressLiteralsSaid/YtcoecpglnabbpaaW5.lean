/- pieces as a sequence. -/
import Derived.RangeFuncFrom
import Derived.Test.YtcoecpglnabbpaaW4
namespace Go.Proofs.Ytcoecpglnabbpaa
open Go.RowKit Go.Shelf
attribute [local go_sem] Oper.semAt_some

theorem pieces_good : ∀ (n : Nat) (l : Bs), l.length ≤ n → ∀ x ∈ pieces l, 1 ≤ x.1.length ∧ x.1.length ≤ n := by
  intro n
  induction n with
  | zero => intro l h x hx; obtain rfl : l = [] := List.eq_nil_of_length_eq_zero (by omega); rw [pieces_nil] at hx; simp at hx
  | succ n ih =>
    intro l h x hx
    cases l with
    | nil => rw [pieces_nil] at hx; simp at hx
    | cons a r =>
      rw [pieces_cons] at hx
      have h1 := hd_pos (a := a) (r := r)
      have h2 := hd_le (a :: r)
      rcases List.mem_cons.1 hx with rfl | hx
      · simp only [List.length_take]; omega
      · have := ih _ (by simp only [List.length_drop]; omega) x hx
        omega
/-- A piece of a page. -/
abbrev GP := { x : Bs × Bool // 1 ≤ x.1.length ∧ x.1.length ≤ 64 }
theorem grownBy_block {w w' : World} {row : Option Nat} {k : Nat} {o : Obj} (h : w.heap[k]? = some o) (hg : w.grownBy w' row) (hr : row ≠ some k) : w'.heap[k]? = some o := by
  rw [hg.block k (Array.getElem?_eq_some_iff.1 h).1 (fun e => hr e.symm)]; exact h

theorem pieces_any (w : World) (s : ByteArray) : Calls Try.prog 13 #[.string s] w fun e w' => e = .returned (.func (.func 19) #[] #[.pointer (some ⟨w.heap.size, 0, none⟩)]) ∧ w' = w.alloc (.cells #[.string s] 9) := by
  go_enter Try.func13, Try.ntmps13
  go_wp2
  go_ret
  exact ⟨rfl, rfl⟩
theorem pieces_stops (n : Nat) (hn : 1 ≤ n) (Bn : Nat) (s : ByteArray) (hs : s.size = 64) (w : World) (hB : w.heap[Bn]? = some (.cells #[.string s] 9 (0, 0))) :
    SeqStopsK Fence.wide n Try.prog 19 #[.pointer (some ⟨Bn, 0, none⟩)] (fun x : GP => encs x.1) (Kp Bn) (fun ys => ys.map (·.1) = pieces (bys s)) (fun _ => True) (pieces (bys s)).length w := fun l J Jx W hW hJ hJx hY h0 => by
  have hlt : Bn < w.heap.size := (Array.getElem?_eq_some_iff.1 hB).1
  have hBW : W.heap[Bn]? = some (.cells #[.string s] 9 (0, 0)) := (hW.block Bn hlt).trans hB
  refine (pieces1 n hn l Bn s (by omega) (fun pre W => ∃ ys : List GP, ys.map (·.1) = pre ∧ J ys W) (fun pre W => ∃ ys : List GP, ys.map (·.1) = pre ∧ Jx ys W) W W
    (fun st A B row hs' hg hr => by obtain ⟨ys, h1, h2⟩ := hs'; exact ⟨ys, h1, hJ ys A B row h2 hg hr⟩) ?_ hBW ⟨[], rfl, h0⟩).mono ?_
  · rintro pre x W1 ⟨ys, rfl, h2⟩ hp
    have hx : x ∈ pieces (bys s) := hp.subset (by simp)
    have hg := pieces_good 64 (bys s) (by simp; omega) x hx
    have hlen := hp.length_le
    have := hY ys ⟨x, hg⟩ W1 h2 (by simp at hlen; omega)
    obtain ⟨fn, tmps, assign, body, hy, hR⟩ := this
    refine ⟨fn, tmps, assign, body, hy, hR.mono ?_⟩
    rintro e W' (⟨he, hj, hk⟩ | ⟨he, hj⟩)
    · exact .inl ⟨he, ⟨ys ++ [⟨x, hg⟩], by simp, hj⟩, hk⟩
    · exact .inr ⟨he, ⟨ys ++ [⟨x, hg⟩], by simp, hj⟩⟩
  · rintro e W' ⟨hv, h⟩
    refine ⟨hv, ?_⟩
    rcases h with ⟨xs, rfl, ys, h1, h2⟩ | ⟨pre, hp, ys, h1, h2⟩
    · exact .inl ⟨ys, h1, h2⟩
    · exact .inr ⟨ys, trivial, h2⟩
end Go.Proofs.Ytcoecpglnabbpaa
