/- The reference: Pieces. -/
import Derived.Test.YtcoecpglnabbpaaE1
import Derived.Test.YtcoecpglnabbpaaB1
namespace Go.Proofs.Ytcoecpglnabbpaa
open Go.RowKit

/-- The cells of a list of strings. -/
def sc (l : List Bs) : List Value := l.map (fun p => Value.string (st p))
theorem sc_one (l : List Bs) : ∀ u ∈ sc l, u.oneCell' = true := by
  intro u hu
  obtain ⟨x, _, rfl⟩ := List.mem_map.1 hu
  rfl
theorem sc_len (l : List Bs) : (sc l).length = l.length := by simp [sc]
theorem info9 : (Try.prog.info? 9).map (fun i => (i.zero, i.size, i.bytes)) = some (some (.string ⟨#[]⟩), 1, 16) := by kernel_rfl
def ps1 (l : Bs) : List Bs := (pieces l).map (·.1)
theorem ps1_nil : ps1 [] = [] := by unfold ps1; rw [pieces_nil]; rfl
theorem ps1_run {s : ByteArray} {i : Nat} (hi : i < s.size) (h : beg s i = true) : ps1 ((bys s).drop i) = ((bys s).drop i).take (eqN ((bys s).drop i)) :: ps1 ((bys s).drop (i + eqN ((bys s).drop i))) := by
  have h3 : 3 ≤ eqN ((bys s).drop i) := of_decide_eq_true h
  unfold ps1
  have e : pieces ((bys s).drop i) = (((bys s).drop i).take (hd ((bys s).drop i)), decide (3 ≤ eqN ((bys s).drop i))) :: pieces (((bys s).drop i).drop (hd ((bys s).drop i))) := by
    rw [drop_at s i hi]; exact pieces_cons _ _
  rw [e, hd_run h3, List.drop_drop]
  rfl
theorem ps1_lit {s : ByteArray} {i : Nat} (hi : i < s.size) (h : beg s i = false) : ps1 ((bys s).drop i) = ((bys s).drop i).take (lit ((bys s).drop i)) :: ps1 ((bys s).drop (i + lit ((bys s).drop i))) := by
  have h3 : ¬ 3 ≤ eqN ((bys s).drop i) := of_decide_eq_false h
  unfold ps1
  have e : pieces ((bys s).drop i) = (((bys s).drop i).take (hd ((bys s).drop i)), decide (3 ≤ eqN ((bys s).drop i))) :: pieces (((bys s).drop i).drop (hd ((bys s).drop i))) := by
    rw [drop_at s i hi]; exact pieces_cons _ _
  rw [e, hd_lit h3, List.drop_drop]
  rfl
theorem run_step {s : ByteArray} {i k : Nat} (hk : 1 ≤ k) (h : i + k < s.size) (hs : k ≤ eqN ((bys s).drop i)) : (s[i + k]'(by omega) = s[i]'(by omega) ∧ k + 1 ≤ eqN ((bys s).drop i)) ∨ (s[i + k]'(by omega) ≠ s[i]'(by omega) ∧ k = eqN ((bys s).drop i)) := by
  have hall : ∀ j, j < k → ((bys s).drop i)[j]? = ((bys s).drop i)[0]? := by
    intro j hj
    have ht := take_eqN (s[i]'(by omega)) ((bys s).drop (i + 1))
    rw [← drop_at s i (by omega)] at ht
    have h1 : (((bys s).drop i).take (eqN ((bys s).drop i)))[j]? = some (s[i]'(by omega)) := by rw [ht, List.getElem?_replicate, if_pos (by omega)]
    rw [List.getElem?_take, if_pos (by omega)] at h1
    rw [h1, bys_drop_at s i 0 (by omega)]
    rfl
  by_cases e : s[i + k]'(by omega) = s[i]'(by omega)
  · left
    refine ⟨e, ?_⟩
    rcases Nat.lt_or_ge k (eqN ((bys s).drop i)) with h1 | h1
    · omega
    · exfalso
      have hke : k = eqN ((bys s).drop i) := by omega
      -- the bytes up to k are equal, and the k-th too: then eqN is greater
      have hall2 : ∀ j, j < k + 1 → ((bys s).drop i)[j]? = ((bys s).drop i)[0]? := by
        intro j hj
        by_cases hjk : j < k
        · exact hall j hjk
        · obtain rfl : j = k := by omega
          rw [bys_drop_at s i j h, bys_drop_at s i 0 (by omega), e]
          rfl
      have hge : k + 1 ≤ eqN ((bys s).drop i) := by
        rw [drop_at s i (by omega), eqN_cons]
        have h5 : ((bys s).drop (i + 1)).take k = List.replicate k (s[i]'(by omega)) := by
          rw [List.eq_replicate_iff]
          refine ⟨by simp; omega, fun b hb => ?_⟩
          obtain ⟨j, hj, rfl⟩ := List.getElem_of_mem hb
          simp only [List.length_take] at hj
          have h6 := hall2 (j + 1) (by omega)
          rw [bys_drop_at s i (j + 1) (by omega), bys_drop_at s i 0 (by omega)] at h6
          injection h6 with h6
          rw [List.getElem_take]
          have h7 := bys_drop_at s (i + 1) j (by omega)
          rw [List.getElem?_eq_getElem (by simp; omega)] at h7
          injection h7 with h7
          rw [h7]
          simpa [Nat.add_assoc, Nat.add_comm 1 j] using h6
        have h8 : ((bys s).drop (i + 1)) = List.replicate k (s[i]'(by omega)) ++ ((bys s).drop (i + 1)).drop k := by rw [← h5, List.take_append_drop]
        rw [h8, List.takeWhile_append_of_pos (fun x hx => by simp [List.eq_of_mem_replicate hx])]
        simp
        omega
      omega
  · right
    exact ⟨e, (eqN_of hk (by simp; omega) hall (.inr (by rw [bys_drop_at s i k h, bys_drop_at s i 0 (by omega)]; simpa using e))).symm⟩
end Go.Proofs.Ytcoecpglnabbpaa
