/- slices.DeleteFunc. -/
import Derived.Test.YteognipfnbocpaaT13W2
namespace Go.Proofs.Yteognipfnbocpaa.T13
open Go.RowKit

/-- 'clear' of a slice of m entries. -/
theorem run_clear_n {P : Program} (w : World) (t e ty : TypeId) (z : Value) (zs : List Value) (m : Nat) (ht : P.underlying t = some (.slice e)) (hv : ∀ w, (zeroValue e).run P w = .ok z w) (hz : (Builtin.zeroCells z.cells (m + 1)).toList = zs) (h1 : ∀ v ∈ zs, v.oneCell' = true) (b o c : Nat)
    (hc : ∀ j, j < zs.length → (w.cell? ⟨b, o + j, none⟩).isSome = true) (hf : ∀ j, j < zs.length → w.frozen? ⟨b, o + j, none⟩ = false) :
    (Builtin.clear_ #[t] ty #[.slice (some ⟨b, o, none⟩) (m + 1) c]).run P w = .ok (.tuple #[]) (w.setCells b o zs) := by
  have hst := run_storeCells_cells (P := P) b o zs 0 w (by simpa using hc) (by simpa using hf) h1
  simp only [Nat.add_zero] at hst
  simp [Builtin.clear_, run_underlying ht, hv, hz, hst]
def zs34 (m : Nat) : List Value := (Builtin.zeroCells #[.int .i64 0, .int .i64 0, .int .i64 0, .bool false] m).toList
theorem zs34_len (m : Nat) : (zs34 m).length = m * 4 := by simp [zs34, Builtin.zeroCells]
theorem zs34_one (m : Nat) : ∀ v ∈ zs34 m, v.oneCell' = true := by
  intro v hv
  unfold zs34 Builtin.zeroCells at hv
  simp only [Array.toList_map, List.mem_map] at hv
  obtain ⟨i, -, rfl⟩ := hv
  have : i % 4 = 0 ∨ i % 4 = 1 ∨ i % 4 = 2 ∨ i % 4 = 3 := by omega
  rcases this with h | h | h | h <;> simp [h] <;> rfl
theorem run_clear34 (w : World) (b i n cap : Nat) (xs : List Value) (ho : w.ownsRow 0 41 4 (.slice (some ⟨b, 0, none⟩) n cap) n xs) (hi : i < n) (ty : TypeId) :
    (Builtin.clear_ #[38] ty #[.slice (some ⟨b, i * 4, none⟩) (n - i) (cap - i)]).run Try.prog w = .ok (.tuple #[]) (w.setCells b (i * 4) (zs34 (n - i))) := by
  obtain ⟨cur, hb, hnc, hcm, hcs, hx⟩ := own_blk ho
  obtain ⟨m, hm⟩ : ∃ m, n - i = m + 1 := ⟨n - i - 1, by omega⟩
  rw [hm]
  refine run_clear_n w 38 41 ty (.agg #[.int .i64 0, .int .i64 0, .int .i64 0, .bool false]) (zs34 (m + 1)) m Try.underlying38 (fun w => by kernel_rfl) rfl (zs34_one _) b (i * 4) (cap - i) (fun j hj => ?_) (fun j _ => hb.frozen _)
  rw [zs34_len] at hj
  rw [hb.cell, Array.getElem?_eq_getElem (by rw [hcs]; omega)]
  rfl
theorem own_clear {w : World} {b i n cap : Nat} {xs : List Value} (ho : w.ownsRow 0 41 4 (.slice (some ⟨b, 0, none⟩) n cap) n xs) (hi : i < n) :
    (w.setCells b (i * 4) (zs34 (n - i))).ownsRow 0 41 4 (.slice (some ⟨b, 0, none⟩) i cap) i (xs.take (i * 4)) := by
  obtain ⟨cur, hb, hnc, hcm, hcs, hx⟩ := own_blk ho
  have hl : i * 4 + (zs34 (n - i)).length ≤ cur.size := by rw [zs34_len, hcs]; omega
  refine own_of_blk (hb.setCells _ _ hl) (by omega) hcm ?_ ?_
  · rw [List.size_toArray, splice_len (by rw [Array.length_toList]; exact hl), Array.length_toList, hcs]
  · rw [List.toList_toArray]
    unfold splice
    rw [List.append_assoc, List.take_append_of_le_length (by rw [List.length_take, Array.length_toList, hcs]; omega), List.take_take, Nat.min_self, ← hx, List.take_take, Nat.min_eq_left (by omega)]
theorem es_set {L : List En} {i : Nat} (hi : i < L.length) (x : En) : ((((es L).set (i * 4) (.int .i64 x.s)).set (i * 4 + 1) (.int .i64 x.p)).set (i * 4 + 2) (.int .i64 x.f)).set (i * 4 + 3) (.bool x.w) = es (L.set i x) := by
  have h := rw_splice ec_len hi x
  have hl := es_len L
  show _ = rw ec (L.set i x)
  rw [← h]
  show _ = splice (es L) (i * 4) [.int .i64 x.s, .int .i64 x.p, .int .i64 x.f, .bool x.w]
  rw [← splice_cons _ _ _ _ (by simp [hl]; omega), ← splice_cons _ _ _ _ (by simp [hl]; omega), ← splice_cons _ _ _ _ (by simp [hl]; omega), ← splice_cons _ _ _ _ (by simp [hl]; omega), splice_nil]

/-- The list while DeleteFunc goes: i kept of the first j. -/
structure DF (q : En → Bool) (L M : List En) (i j : Nat) : Prop where
  l : M.length = L.length
  ij : i < j
  jn : j ≤ L.length
  t : M.take i = (L.take j).filter (fun e => !q e)
  d : M.drop j = L.drop j
theorem DF.start {q : En → Bool} {L : List En} {i : Nat} (h : L.findIdx? q = some i) : DF q L L i (i + 1) := by
  rw [List.findIdx?_eq_some_iff_getElem] at h
  obtain ⟨hi, hq, hb⟩ := h
  refine ⟨rfl, by omega, by omega, ?_, rfl⟩
  rw [List.take_succ_eq_append_getElem hi, List.filter_append, List.filter_eq_self.2 (fun x hx => ?_)]
  · simp [hq]
  · obtain ⟨j, hj, rfl⟩ := List.getElem_of_mem hx
    simp only [List.length_take] at hj
    have := hb j (by omega)
    simpa using this
theorem DF.get {q : En → Bool} {L M : List En} {i j : Nat} (h : DF q L M i j) (hj : j < L.length) : M[j]'(by rw [h.l]; exact hj) = L[j] := by
  have := h.d
  have h1 := congrArg (fun l => l[0]?) this
  simp only [List.getElem?_drop, Nat.add_zero] at h1
  rw [List.getElem?_eq_getElem (by rw [h.l]; exact hj), List.getElem?_eq_getElem hj] at h1
  injection h1
theorem DF.off {q : En → Bool} {L M : List En} {i j : Nat} (h : DF q L M i j) (hj : j < L.length) (hq : q L[j] = true) : DF q L M i (j + 1) := by
  have := h.ij
  refine ⟨h.l, by omega, by omega, ?_, ?_⟩
  · rw [List.take_succ_eq_append_getElem hj, List.filter_append, ← h.t]; simp [hq]
  · rw [← List.drop_drop, ← List.drop_drop, h.d]
theorem DF.on {q : En → Bool} {L M : List En} {i j : Nat} (h : DF q L M i j) (hj : j < L.length) (hq : q L[j] = false) : DF q L (M.set i L[j]) (i + 1) (j + 1) := by
  have hij := h.ij
  have hl := h.l
  refine ⟨by simp [hl], by omega, by omega, ?_, ?_⟩
  · rw [List.take_succ_eq_append_getElem hj, List.filter_append, ← h.t, List.take_succ_eq_append_getElem (by simp; omega)]
    simp [hq, List.take_set_of_le]
  · rw [List.drop_set_of_lt (by omega), ← List.drop_drop, ← List.drop_drop, h.d]
theorem DF.done {q : En → Bool} {L M : List En} {i : Nat} (h : DF q L M i L.length) : M.take i = L.filter (fun e => !q e) ∧ i = (L.filter (fun e => !q e)).length := by
  have h1 := h.t
  rw [List.take_length] at h1
  refine ⟨h1, ?_⟩
  rw [← h1, List.length_take, h.l]
  have := h.ij
  omega
end Go.Proofs.Yteognipfnbocpaa.T13
