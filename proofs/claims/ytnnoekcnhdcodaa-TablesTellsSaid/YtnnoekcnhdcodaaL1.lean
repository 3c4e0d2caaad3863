/- Two lists of entries compared; TablesLevels: the plain side. -/
import Derived.Test.YtnnoekcnhdcodaaM1
namespace Go.Proofs.Ytnnoekcnhdcodaa
open Go.RowKit

theorem cells5_at (l : List (Nat × E)) (k j : Nat) (hk : k < l.length) (hj : j < 5) : (cells5 l)[k * 5 + j]? = (c5 l[k])[j]? := by
  induction l generalizing k with
  | nil => simp at hk
  | cons x r ih =>
    have hc : (c5 x).length = 5 := rfl
    show (c5 x ++ cells5 r)[k * 5 + j]? = _
    cases k with
    | zero => rw [List.getElem?_append_left (by rw [hc]; omega)]; simp
    | succ k =>
      rw [List.getElem?_append_right (by rw [hc]; omega), hc, show (k + 1) * 5 + j - 5 = k * 5 + j by omega, ih k (by simpa using hk)]
      rfl

set_option maxHeartbeats 800000 in
theorem same_any (w : World) (v u : Value) (L : List (Nat × E)) (h1 : w.ownsRow 0 27 5 v L.length (cells5 L)) (h2 : w.ownsRow 0 27 5 u L.length (cells5 L)) :
    Calls Try.prog 16 #[v, u] w fun e w' => e = .returned (.bool true) ∧ Keeps [] w w' := by
  have hm := own_max h1
  unfold maxLen at hm
  obtain ⟨A, c, rfl, _, _, hA⟩ := own_shape h1
  obtain ⟨B, c2, rfl, _, _, hB⟩ := own_shape h2
  go_enter Try.func16, Try.ntmps16
  go_wp2
  go_loopw [5] (fun i wr => ∃ k : Nat, k ≤ L.length ∧ i = .int .i64 k ∧ Keeps [] w wr) (fun i _ => L.length - (intOf i).toNat)
  case atStart => exact ⟨0, by omega, rfl, Keeps.refl _ _⟩
  case round =>
    obtain ⟨k, hk, rfl, hkp⟩ := hrel
    by_cases hlt : k < L.length
    · obtain ⟨g, rfl⟩ := hA (by omega)
      obtain ⟨g2, rfl⟩ := hB (by omega)
      have hc := fun j hj => cells5_at L k j hlt hj
      obtain ⟨⟨x0, x1, x2, x3, x4⟩, hx⟩ : ∃ x, x = L[k] := ⟨_, rfl⟩
      rw [← hx] at hc
      have o1 := own_keep h1 hkp (by simp)
      have o2 := own_keep h2 hkp (by simp)
      have a0 : wr.cell? ⟨g, k * 5, none⟩ = some (.int .i64 x0) := own_cell o1 (hc 0 (by omega))
      have a1 : wr.cell? ⟨g, k * 5 + 1, none⟩ = some (.int .i64 x1) := own_cell o1 (hc 1 (by omega))
      have a2 : wr.cell? ⟨g, k * 5 + 2, none⟩ = some (.bool x2) := own_cell o1 (hc 2 (by omega))
      have a3 : wr.cell? ⟨g, k * 5 + 3, none⟩ = some (.bool x3) := own_cell o1 (hc 3 (by omega))
      have a4 : wr.cell? ⟨g, k * 5 + 4, none⟩ = some (.bool x4) := own_cell o1 (hc 4 (by omega))
      have b0 : wr.cell? ⟨g2, k * 5, none⟩ = some (.int .i64 x0) := own_cell o2 (hc 0 (by omega))
      have b1 : wr.cell? ⟨g2, k * 5 + 1, none⟩ = some (.int .i64 x1) := own_cell o2 (hc 1 (by omega))
      have b2 : wr.cell? ⟨g2, k * 5 + 2, none⟩ = some (.bool x2) := own_cell o2 (hc 2 (by omega))
      have b3 : wr.cell? ⟨g2, k * 5 + 3, none⟩ = some (.bool x3) := own_cell o2 (hc 3 (by omega))
      have b4 : wr.cell? ⟨g2, k * 5 + 4, none⟩ = some (.bool x4) := own_cell o2 (hc 4 (by omega))
      have hi0 : (0 : Int) ≤ (k : Int) := by omega
      have hi1 : (k : Int) < (L.length : Int) := by omega
      clear hA hB h1 h2 hc o1 o2 hx
      go_wp2_with fail
      go_quiet (fail)
      go_wp2
      go_roundw
      case rel => exact ⟨k + 1, by omega, by go_num, hkp.drewN _⟩
      case measure => simp [intOf]; omega
    · go_wp2
      go_ret
      exact ⟨rfl, hkp⟩

/-- How many groups have entries among the first n pages, and the last of these groups (-1: none). -/
def lv (m : Nat → Option E) : Nat → Nat × Int
  | 0 => (0, -1)
  | n + 1 => match m n with
    | none => lv m n
    | some _ => if ((n / 16 : Nat) : Int) = (lv m n).2 then lv m n else ((lv m n).1 + 1, ((n / 16 : Nat) : Int))
theorem lv_none {m : Nat → Option E} {n : Nat} (h : m n = none) : lv m (n + 1) = lv m n := by simp [lv, h]
theorem lv_same {m : Nat → Option E} {n : Nat} {e : E} (h : m n = some e) (h2 : ((n / 16 : Nat) : Int) = (lv m n).2) : lv m (n + 1) = lv m n := by
  show (match m n with | none => lv m n | some _ => _) = _
  rw [h]
  exact if_pos h2
theorem lv_new {m : Nat → Option E} {n : Nat} {e : E} (h : m n = some e) (h2 : ¬((n / 16 : Nat) : Int) = (lv m n).2) : lv m (n + 1) = ((lv m n).1 + 1, ((n / 16 : Nat) : Int)) := by
  show (match m n with | none => lv m n | some _ => _) = _
  rw [h]
  exact if_neg h2
theorem lv_in (m : Nat → Option E) (g i : Nat) (hi : i ≤ 16) (h0 : (lv m (16 * g)).2 < g) : lv m (16 * g + i) = if used m g i = 0 then lv m (16 * g) else ((lv m (16 * g)).1 + 1, (g : Int)) := by
  induction i with
  | zero => simp [used]
  | succ i ih =>
    have ih := ih (by omega)
    have hd : (16 * g + i) / 16 = g := by omega
    rw [← Nat.add_assoc]
    cases hm : m (16 * g + i) with
    | none =>
      rw [lv_none hm, ih]
      simp [used, hm]
    | some e =>
      have hu : used m g (i + 1) ≠ 0 := by simp [used, hm]
      rw [if_neg hu]
      by_cases hz : used m g i = 0
      · rw [if_pos hz] at ih
        rw [lv_new hm (by rw [hd, ih]; omega), ih, hd]
      · rw [if_neg hz] at ih
        rw [lv_same hm (by rw [hd, ih]), ih]
theorem lv_levs (m : Nat → Option E) (g : Nat) : (lv m (16 * g)).1 = levs m g ∧ (lv m (16 * g)).2 < g := by
  induction g with
  | zero => simp [lv, levs]
  | succ g ih =>
    have h := lv_in m g 16 (by omega) ih.2
    rw [show 16 * (g + 1) = 16 * g + 16 by omega, h]
    by_cases hz : used m g 16 = 0
    · rw [if_pos hz, levs_zero hz]; exact ⟨ih.1, by have := ih.2; omega⟩
    · rw [if_neg hz, levs_succ hz]; exact ⟨by rw [ih.1], by omega⟩
theorem lv_le (m : Nat → Option E) (n : Nat) : (lv m n).1 ≤ n := by
  induction n with
  | zero => simp [lv]
  | succ n ih =>
    cases h : m n with
    | none => rw [lv_none h]; omega
    | some e =>
      by_cases h2 : ((n / 16 : Nat) : Int) = (lv m n).2
      · rw [lv_same h h2]; omega
      · rw [lv_new h h2]; simp only []; omega
theorem TbRep.o {w : World} {F : List Nat} {p : Nat} {m : Nat → Option E} (h : TbRep w F p m) : ∀ pg, 256 ≤ pg → m pg = none := by obtain ⟨q, h⟩ := h; exact h.o
end Go.Proofs.Ytnnoekcnhdcodaa
