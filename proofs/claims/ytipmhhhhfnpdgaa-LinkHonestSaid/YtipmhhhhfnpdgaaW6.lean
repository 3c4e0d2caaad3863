/- Packets compared; Same; count; few. -/
import Derived.Test.YtipmhhhhfnpdgaaR2
import Derived.Laws.StructEq
namespace Go.Proofs.Ytipmhhhhfnpdgaa
open Go.RowKit

def pkEq (a b : Pk) : Bool := a.1 == b.1 && a.2.toList == b.2.toList
theorem eql_pk (w : World) (a b : Int) (x y : ByteArray) : (binOp .eql 31 (.agg #[.int .i64 a, .string x]) (.agg #[.int .i64 b, .string y])).run Try.prog w = .ok (.bool (pkEq (a, x) (b, y))) w := by
  have u3 := Try.underlying3
  have u9 := Try.underlying9
  have a3 := Try.isAgg3
  have z3 := Try.sizeOf3
  have a9 := Try.isAgg9
  have z9 := Try.sizeOf9
  have hS : Try.prog.underlying 31 = some (.struct (Try.prog.fieldsOf 31)) := by kernel_rfl
  have hp : Try.prog.stoodInHeld 31 = false := by kernel_rfl
  rw [run_eql_struct, show (10000 : Nat) = 9999 + 1 from rfl, run_equalIn_agg w 9999 31 _ _ hS hp]
  simp only [Program.fieldsOf, Try.underlying31]
  go_simp
  unfold pkEq
  by_cases h1 : a = b <;> by_cases h2 : x.toList = y.toList <;> simp [h1, h2]

theorem same_any (w : World) (v u : Value) (L : List Pk) (h1 : w.ownsRow 0 31 2 v L.length (pc L)) (h2 : w.ownsRow 0 31 2 u L.length (pc L)) :
    Calls Try.prog 11 #[v, u] w fun e w' => e = .returned (.bool true) ∧ Keeps [] w w' := by
  have hm := own_max h1
  unfold maxLen at hm
  obtain ⟨A, c, rfl, _, _, hA⟩ := own_shape h1
  obtain ⟨B, c2, rfl, _, _, hB⟩ := own_shape h2
  go_enter Try.func11, Try.ntmps11
  go_wp2
  go_loopw [5] (fun i wr => ∃ k : Nat, k ≤ L.length ∧ i = .int .i64 k ∧ Keeps [] w wr) (fun i _ => L.length - (intOf i).toNat)
  case atStart => exact ⟨0, by omega, rfl, Keeps.refl _ _⟩
  case round =>
    obtain ⟨k, hk, rfl, hkp⟩ := hrel
    by_cases hlt : k < L.length
    · obtain ⟨g, rfl⟩ := hA (by omega)
      obtain ⟨g2, rfl⟩ := hB (by omega)
      have c1 : wr.cell? ⟨g, k * 2, none⟩ = some (.int .i64 L[k].1) := own_cell (own_keep h1 hkp (by simp)) (pc_at0 _ _ hlt)
      have c1' : wr.cell? ⟨g, k * 2 + 1, none⟩ = some (.string L[k].2) := own_cell (own_keep h1 hkp (by simp)) (pc_at1 _ _ hlt)
      have c2 : wr.cell? ⟨g2, k * 2, none⟩ = some (.int .i64 L[k].1) := own_cell (own_keep h2 hkp (by simp)) (pc_at0 _ _ hlt)
      have c2' : wr.cell? ⟨g2, k * 2 + 1, none⟩ = some (.string L[k].2) := own_cell (own_keep h2 hkp (by simp)) (pc_at1 _ _ hlt)
      have hi0 : (0 : Int) ≤ (k : Int) := by omega
      have hi1 : (k : Int) < (L.length : Int) := by omega
      generalize L[k] = x at *
      clear hA hB h1 h2
      go_wp2_with fail
      go_quiet (fail)
      go_wp2
      go_roundw
      case rel => exact ⟨k + 1, by omega, by go_num, hkp.drewN _⟩
      case measure => simp [intOf]; omega
    · go_wp2
      go_ret
      exact ⟨rfl, hkp⟩

/-- How often a packet is in a list. -/
def cntP (L : List Pk) (p : Pk) : Nat := L.countP (fun q => pkEq q p)
theorem cntP_snoc (L : List Pk) (k : Nat) (hk : k < L.length) (p : Pk) : cntP (L.take (k + 1)) p = cntP (L.take k) p + if pkEq L[k] p then 1 else 0 := by
  unfold cntP
  rw [List.take_succ_eq_append_getElem hk, List.countP_append]
  simp [List.countP_cons]
theorem cntP_le (L : List Pk) (p : Pk) : cntP L p ≤ L.length := List.countP_le_length

theorem countp_any (w : World) (v : Value) (L : List Pk) (p : Pk) (h1 : w.ownsRow 0 31 2 v L.length (pc L)) (hl : L.length ≤ 1000000) :
    Calls Try.prog 20 #[v, .agg #[.int .i64 p.1, .string p.2]] w fun e w' => e = .returned (.int .i64 (cntP L p)) ∧ Keeps [] w w' := by
  obtain ⟨A, c, rfl, _, _, hA⟩ := own_shape h1
  have hb0 := Blk.new w 31 #[.int .i64 p.1, .string p.2]
  have hk0 : Keeps [] w (w.alloc (.cells #[.int .i64 p.1, .string p.2] 31)) := (Keeps.refl _ _).alloc _
  go_enter Try.func20, Try.ntmps20
  go_wp2
  go_loopw [5, 6] (fun t i wr => ∃ k : Nat, k ≤ L.length ∧ i = .int .i64 k ∧ t = .int .i64 (cntP (L.take k) p) ∧ Keeps [] w wr ∧ Blk wr w.heap.size 31 #[.int .i64 p.1, .string p.2]) (fun _ i _ => L.length - (intOf i).toNat)
  case atStart => exact ⟨0, by omega, rfl, by simp [cntP], hk0, hb0⟩
  case round =>
    obtain ⟨k, hk, rfl, rfl, hkp, hb⟩ := hrel
    by_cases hlt : k < L.length
    · obtain ⟨g, rfl⟩ := hA (by omega)
      have c1 : wr.cell? ⟨g, k * 2, none⟩ = some (.int .i64 L[k].1) := own_cell (own_keep h1 hkp (by simp)) (pc_at0 _ _ hlt)
      have c1' : wr.cell? ⟨g, k * 2 + 1, none⟩ = some (.string L[k].2) := own_cell (own_keep h1 hkp (by simp)) (pc_at1 _ _ hlt)
      have c2 : wr.cell? ⟨w.heap.size, 0, none⟩ = some (.int .i64 p.1) := hb.cell 0
      have c2' : wr.cell? ⟨w.heap.size, 1, none⟩ = some (.string p.2) := hb.cell 1
      have hi0 : (0 : Int) ≤ (k : Int) := by omega
      have hi1 : (k : Int) < (L.length : Int) := by omega
      have hc := cntP_snoc L k hlt p
      have HC := Lib.hid hc
      have hcl : cntP (L.take k) p ≤ k := Nat.le_trans (cntP_le _ _) (by simp; omega)
      have hpe : pkEq L[k] p = (L[k].1 == p.1 && L[k].2.toList == p.2.toList) := rfl
      have HP := Lib.hid hpe
      clear hc hpe hb0 hk0 hA h1
      generalize L[k] = x at *
      by_cases e1 : x.1 = p.1
      · by_cases e2 : x.2.toList = p.2.toList
        · have t1 : (x.1 == p.1) = true := by simp [e1]
          have t2 : (x.2.toList == p.2.toList) = true := by simp [e2]
          have E : Hid (pkEq x p = true) := by show pkEq x p = true; rw [HP.out, t1, t2]; rfl
          clear e1 e2
          go_wp2_with fail
          go_quiet (fail)
          go_wp2
          go_roundw
          case rel => exact ⟨k + 1, by omega, by go_num, by rw [HC.out, E.out]; simp, hkp.drewN _, hb.drewN _⟩
          case measure => simp [intOf]; omega
        · have t1 : (x.1 == p.1) = true := by simp [e1]
          have t2 : (x.2.toList == p.2.toList) = false := by simp [e2]
          have E : Hid (pkEq x p = false) := by show pkEq x p = false; rw [HP.out, t1, t2]; rfl
          clear e1 e2
          go_wp2_with fail
          go_quiet (fail)
          go_wp2
          go_roundw
          case rel => exact ⟨k + 1, by omega, by go_num, by rw [HC.out, E.out]; simp, hkp.drewN _, hb.drewN _⟩
          case measure => simp [intOf]; omega
      · have t1 : (x.1 == p.1) = false := by simp [e1]
        have E : Hid (pkEq x p = false) := by show pkEq x p = false; rw [HP.out, t1]; rfl
        clear e1
        go_wp2_with fail
        go_quiet (fail)
        go_wp2
        go_roundw
        case rel => exact ⟨k + 1, by omega, by go_num, by rw [HC.out, E.out]; simp, hkp.drewN _, hb.drewN _⟩
        case measure => simp [intOf]; omega
    · obtain rfl : k = L.length := by omega
      go_wp2
      go_ret
      exact ⟨by simp, hkp⟩

/-- The argument's operations lie from ⟨bl, off⟩ on. -/
structure OpsAt (w : World) (bl off n : Nat) (d m : Nat → Int) (b : Nat → ByteArray) : Prop where
  lt : bl < w.heap.size
  c0 : ∀ i, i < n → w.cell? ⟨bl, off + i * 3, none⟩ = some (.int .i64 (d i))
  c1 : ∀ i, i < n → w.cell? ⟨bl, off + i * 3 + 1, none⟩ = some (.int .i64 (m i))
  c2 : ∀ i, i < n → w.cell? ⟨bl, off + i * 3 + 2, none⟩ = some (.string (b i))
  rd : ∀ i, i < n → -9223372036854775808 ≤ d i ∧ d i ≤ 9223372036854775807
  rm : ∀ i, i < n → -9223372036854775808 ≤ m i ∧ m i ≤ 9223372036854775807
theorem OpsAt.keep {w w' : World} {bl off n : Nat} {d m : Nat → Int} {b : Nat → ByteArray} (h : OpsAt w bl off n d m b) (hk : Keeps [] w w') : OpsAt w' bl off n d m b :=
  ⟨Nat.lt_of_lt_of_le h.lt hk.size, fun i hi => (hk.cell (p := ⟨bl, _, none⟩) h.lt (by simp)).trans (h.c0 i hi), fun i hi => (hk.cell (p := ⟨bl, _, none⟩) h.lt (by simp)).trans (h.c1 i hi),
    fun i hi => (hk.cell (p := ⟨bl, _, none⟩) h.lt (by simp)).trans (h.c2 i hi), h.rd, h.rm⟩

def fewB (b : Nat → ByteArray) (n : Nat) (N : Int) : Prop := (∀ i, i < n → (b i).size ≤ 100) ∧ (n : Int) ≤ N
def FewPost (b : Nat → ByteArray) (n : Nat) (N : Int) (w : World) (e : Ending) (w' : World) : Prop := ∃ r : Bool, (r = true → fewB b n N) ∧ (e = .returned (.bool r)) ∧ w = w'
theorem few_any (w : World) (A : Option Addr) (n c : Nat) (d m : Nat → Int) (b : Nat → ByteArray) (N : Int) (hn : n ≤ 9223372036854775807)
    (hA : 0 < n → ∃ bl off, A = some ⟨bl, off, none⟩ ∧ OpsAt w bl off n d m b) :
    Calls Try.prog 18 #[.slice A n c, .int .i64 N] w (FewPost b n N w) := by
  go_enter Try.func18, Try.ntmps18
  go_wp2
  go_loop [5] (fun i => ∃ k : Nat, k ≤ n ∧ i = .int .i64 k ∧ ∀ j, j < k → (b j).size ≤ 100) (fun i => n - (intOf i).toNat)
  case atStart => exact ⟨0, by omega, rfl, by intro j hj; omega⟩
  case round =>
    obtain ⟨k, hk, rfl, hs⟩ := hrel
    have HS := Lib.hid hs
    clear hs
    by_cases hlt : k < n
    · obtain ⟨bl, off, rfl, O⟩ := hA (by omega)
      have q2 := O.c2 k hlt
      by_cases h100 : (b k).size ≤ 100
      · go_wp2
        go_round
        case rel => exact ⟨k + 1, by omega, by go_num, fun j hj => by
          rcases Nat.lt_or_ge j k with h | h
          · exact HS.out j h
          · have : j = k := by omega
            subst this; exact h100⟩
        case measure => simp [intOf]; omega
      · go_wp2
        go_ret
        exact ⟨false, by simp, rfl, rfl⟩
    · obtain rfl : k = n := by omega
      by_cases hN : (k : Int) ≤ N
      · go_wp2
        go_ret
        exact ⟨true, fun _ => ⟨HS.out, hN⟩, by simp, rfl⟩
      · go_wp2
        go_ret
        exact ⟨false, by simp, by simp, rfl⟩
end Go.Proofs.Ytipmhhhhfnpdgaa
