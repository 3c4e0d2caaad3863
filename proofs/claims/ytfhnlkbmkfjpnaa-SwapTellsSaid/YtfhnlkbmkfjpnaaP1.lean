/- The swap device as a plain value: what each operation does. No program in sight. -/
import Derived.Laws.Strings
namespace Go.Proofs.Ytfhnlkbmkfjpnaa

/-- slices.Index over strings. -/
def idx (L : List ByteArray) (x : ByteArray) : Nat := L.findIdx (fun y => x.toList == y.toList)
def idxI (L : List ByteArray) (x : ByteArray) : Int := if idx L x < L.length then (idx L x : Int) else -1
theorem idx_eq {L : List ByteArray} {x : ByteArray} {k : Nat} (hlt : k < L.length) (hi : k ≤ idx L x) (he : (x.toList == L[k].toList) = true) : idx L x = k := by
  refine Nat.le_antisymm ?_ hi
  rcases Nat.lt_or_ge k (idx L x) with h | h
  · exact absurd he (by simpa using List.not_of_lt_findIdx h)
  · exact h
theorem idx_gt {L : List ByteArray} {x : ByteArray} {k : Nat} (hlt : k < L.length) (hi : k ≤ idx L x) (he : (x.toList == L[k].toList) = false) : k + 1 ≤ idx L x := by
  rcases Nat.lt_or_ge k (idx L x) with h | h
  · omega
  · have h2 : idx L x = k := by omega
    have h3 : idx L x < L.length := by omega
    have h4 := List.findIdx_getElem (xs := L) (p := fun y : ByteArray => x.toList == y.toList) (w := h3)
    have h5 : L[L.findIdx (fun y : ByteArray => x.toList == y.toList)]'h3 = L[k] := by congr 1
    rw [h5] at h4
    rw [he] at h4
    cases h4

/-- The empty string. -/
def E0 : ByteArray := ⟨#[]⟩
def emp (s : ByteArray) : Bool := s.toList.isEmpty
theorem emp_E0 : emp E0 = true := by unfold emp; rw [ByteArray.toList_eq]; rfl
theorem len_toList (s : ByteArray) : s.toList.length = s.size := by rw [ByteArray.toList_eq]; exact Array.length_toList
theorem emp_size {s : ByteArray} (h : s.size = 64) : emp s = false := by
  unfold emp
  have := len_toList s
  cases hs : s.toList with
  | nil => rw [hs] at this; simp at this; omega
  | cons a l => rfl
theorem emp_iff (s : ByteArray) : (E0.toList == s.toList) = emp s := by
  have h0 : E0.toList = [] := by simp [E0, ByteArray.toList_eq]
  rw [h0]
  unfold emp
  cases s.toList <;> rfl
theorem emp_eq {s : ByteArray} (h : emp s = true) : s = E0 := by
  unfold emp at h
  rw [ByteArray.toList_eq] at h
  obtain ⟨⟨l⟩⟩ := s
  cases l with
  | nil => rfl
  | cons a l => simp at h

/-- How many slots have a page. -/
def cnt (L : List ByteArray) : Nat := L.countP (fun s => !emp s)
theorem cnt_le (L : List ByteArray) : cnt L ≤ L.length := List.countP_le_length
def first (L : List ByteArray) : Nat := idx L E0
theorem first_eq (L : List ByteArray) : first L = L.findIdx emp := by
  unfold first idx
  congr 1
  funext y
  exact emp_iff y
theorem first_lt {L : List ByteArray} (h : cnt L < L.length) : first L < L.length := by
  rw [first_eq]
  rcases Nat.lt_or_ge (L.findIdx emp) L.length with h1 | h1
  · exact h1
  · exfalso
    have h2 := List.findIdx_eq_length.1 (Nat.le_antisymm List.findIdx_le_length h1)
    have : cnt L = L.length := by
      unfold cnt
      rw [List.countP_eq_length]
      intro a ha
      simp [h2 a ha]
    omega
theorem first_emp {L : List ByteArray} (h : first L < L.length) : emp L[first L] = true := by
  have h1 : L.findIdx emp < L.length := by rw [← first_eq]; exact h
  have := List.findIdx_getElem (xs := L) (p := emp) (w := h1)
  have h5 : L[first L] = L[L.findIdx emp] := by congr 1; exact first_eq L
  rw [h5]; exact this
theorem cnt_lt_of_first {L : List ByteArray} (h : first L < L.length) : cnt L < L.length := by
  have h1 := first_emp h
  rcases Nat.lt_or_ge (cnt L) L.length with h2 | h2
  · exact h2
  · exfalso
    have h3 : cnt L = L.length := Nat.le_antisymm (cnt_le L) h2
    unfold cnt at h3
    rw [List.countP_eq_length] at h3
    have := h3 _ (List.getElem_mem h)
    rw [h1] at this
    cases this
theorem cnt_set {L : List ByteArray} {k : Nat} (hk : k < L.length) (p : ByteArray) :
    cnt (L.set k p) + (if emp L[k] then 0 else 1) = cnt L + (if emp p then 0 else 1) := by
  unfold cnt
  rw [List.countP_set hk]
  have h1 : emp L[k] = false → 0 < L.countP (fun s => !emp s) := fun h => List.countP_pos_iff.2 ⟨_, List.getElem_mem hk, by simpa using h⟩
  cases h2 : emp L[k] <;> cases h3 : emp p
  · have := h1 h2; simp; omega
  · have := h1 h2; simp; omega
  · simp
  · simp

/-- The device. -/
structure Sw where
  L : List ByteArray
  due : Int
  ret : Int
def Sw.put (s : Sw) (p : ByteArray) : Int × Bool × Sw :=
  if p.size = 64 ∧ cnt s.L < s.L.length then ((first s.L : Int), true, ⟨s.L.set (first s.L) p, 0, s.ret + s.due⟩) else (-1, false, s)
def hasB (L : List ByteArray) (i : Int) : Bool := decide (0 ≤ i ∧ i < L.length) && !emp (L.getD i.toNat E0)
def Sw.get (s : Sw) (i : Int) : ByteArray × Int × Sw :=
  if hasB s.L i then (s.L.getD i.toNat E0, 0, ⟨s.L, 0, s.ret + s.due⟩) else (E0, 4, s)
def Sw.free (s : Sw) (i : Int) : Sw := if hasB s.L i then ⟨s.L.set i.toNat E0, s.due, s.ret⟩ else s
def clampF (n : Int) : Int := max 0 (min n 1000)
theorem clampF_range (n : Int) : 0 ≤ clampF n ∧ clampF n ≤ 1000 := by unfold clampF; omega
def Sw.fail (s : Sw) (n : Int) : Sw := ⟨s.L, clampF n, s.ret⟩
/-- The used slots below k. -/
def lst (L : List ByteArray) : Nat → List Int
  | 0 => []
  | k + 1 => if emp (L.getD k E0) then lst L k else lst L k ++ [(k : Int)]
theorem lst_len (L : List ByteArray) : ∀ k, (lst L k).length ≤ k
  | 0 => by simp [lst]
  | k + 1 => by
    have := lst_len L k
    unfold lst
    split <;> simp <;> omega
theorem lst_cnt (L : List ByteArray) : ∀ k, k ≤ L.length → (lst L k).length = cnt (L.take k)
  | 0, _ => by simp [lst, cnt]
  | k + 1, h => by
    have ih := lst_cnt L k (by omega)
    have h1 : L.take (k + 1) = L.take k ++ [L.getD k E0] := by
      rw [List.take_succ_eq_append_getElem (by omega)]
      simp [List.getD, show k < L.length by omega]
    unfold lst
    rw [h1]
    unfold cnt at ih ⊢
    rw [List.countP_append]
    generalize L.getD k E0 = y
    cases h2 : emp y <;> simp [h2, ih]
end Go.Proofs.Ytfhnlkbmkfjpnaa
