/- The link as a plain value. No program in sight. -/
import Derived.Laws.Strings
namespace Go.Proofs.Ytipmhhhhfnpdgaa

/-- A packet: to whom, and its body. -/
abbrev Pk := Int × ByteArray
def E0 : ByteArray := ⟨#[]⟩
theorem E0_toList : E0.toList = [] := by rw [ByteArray.toList_eq]; rfl
/-- The cells of a list of packets. -/
def pc : List Pk → List Value
  | [] => []
  | p :: r => .int .i64 p.1 :: .string p.2 :: pc r
theorem pc_len : ∀ L : List Pk, (pc L).length = L.length * 2
  | [] => rfl
  | _ :: r => by simp [pc, pc_len r]; omega
theorem pc_append : ∀ L M : List Pk, pc (L ++ M) = pc L ++ pc M
  | [], _ => rfl
  | p :: r, M => by simp [pc, pc_append r M]
theorem pc_take : ∀ (L : List Pk) (k : Nat), (pc L).take (k * 2) = pc (L.take k)
  | [], k => by simp [pc]
  | p :: r, 0 => by simp [pc]
  | p :: r, k + 1 => by
    have e : (k + 1) * 2 = k * 2 + 1 + 1 := by omega
    rw [e]
    simp [pc, pc_take r k]
theorem pc_drop : ∀ (L : List Pk) (k : Nat), (pc L).drop (k * 2) = pc (L.drop k)
  | [], k => by simp [pc]
  | p :: r, 0 => by simp
  | p :: r, k + 1 => by
    have e : (k + 1) * 2 = k * 2 + 1 + 1 := by omega
    rw [e]
    simp [pc, pc_drop r k]
theorem pc_at0 : ∀ (L : List Pk) (k : Nat) (h : k < L.length), (pc L)[k * 2]? = some (.int .i64 L[k].1)
  | p :: r, 0, _ => by simp [pc]
  | p :: r, k + 1, h => by
    have e : (k + 1) * 2 = k * 2 + 1 + 1 := by omega
    rw [e]
    simpa [pc] using pc_at0 r k (by simpa using h)
theorem pc_at1 : ∀ (L : List Pk) (k : Nat) (h : k < L.length), (pc L)[k * 2 + 1]? = some (.string L[k].2)
  | p :: r, 0, _ => by simp [pc]
  | p :: r, k + 1, h => by
    have e : (k + 1) * 2 + 1 = k * 2 + 1 + 1 + 1 := by omega
    rw [e]
    simpa [pc] using pc_at1 r k (by simpa using h)
theorem pc_one : ∀ (L : List Pk), ∀ u ∈ pc L, u.oneCell' = true
  | [], u, h => by simp [pc] at h
  | p :: r, u, h => by
    simp [pc] at h
    rcases h with rfl | rfl | h
    · rfl
    · rfl
    · exact pc_one r u h
theorem pc_erase (L : List Pk) (k : Nat) : pc (L.eraseIdx k) = (pc L).take (k * 2) ++ (pc L).drop ((k + 1) * 2) := by
  rw [pc_take, pc_drop, ← pc_append, List.eraseIdx_eq_take_drop_succ]

structure Lk where
  L : List Pk
  cut : Bool
def hasI (L : List Pk) (i : Int) : Bool := decide (0 ≤ i ∧ i < L.length)
theorem hasI_lt {L : List Pk} {i : Int} (h : hasI L i = true) : ∃ k : Nat, i = k ∧ k < L.length := by
  unfold hasI at h
  simp at h
  exact ⟨i.toNat, by omega, by omega⟩
def Lk.send (s : Lk) (f : Int) (b : ByteArray) : Int × Lk :=
  if f ≠ 0 ∧ f ≠ 1 then (1, s) else if s.cut then (28, s) else if 500 ≤ s.L.length then (6, s) else (0, ⟨s.L ++ [(1 - f, b)], s.cut⟩)
def Lk.deliver (s : Lk) (i : Int) : Pk × Int × Lk :=
  if hasI s.L i then (s.L.getD i.toNat (0, E0), 0, ⟨s.L.eraseIdx i.toNat, s.cut⟩) else ((0, E0), 4, s)
def Lk.double (s : Lk) (i : Int) : Int × Lk :=
  if hasI s.L i then (if 500 ≤ s.L.length then (6, s) else (0, ⟨s.L ++ [s.L.getD i.toNat (0, E0)], s.cut⟩)) else (4, s)
end Go.Proofs.Ytipmhhhhfnpdgaa
