/- The walks of page, slices.Index, slices.Clone over strings. -/
import Derived.Test.YtfhnlkbmkfjpnaaOwn
import Derived.Test.YtfhnlkbmkfjpnaaP1
import Derived.Test.YtfhnlkbmkfjpnaaProg
import Derived.RegionTactic
import Derived.BigRegion
import Derived.Deep.QuietTactic
import Derived.BigQuiet
import Derived.WalkLawsBesides
import Derived.WalkSpells
import Derived.Laws.IdiomStrings
import Derived.OwnWalk
import Derived.KernelRfl
namespace Go.Proofs.Ytfhnlkbmkfjpnaa
open Go.RowKit

/-- A page of one byte. -/
def pg (n : Int) : ByteArray := ⟨(List.replicate 64 (UInt8.ofNat n.toNat)).toArray⟩
theorem pg_size (n : Int) : (pg n).size = 64 := by simp [pg, ByteArray.size]
def zeros64 : Array Value := Array.replicate 64 (.int .u8 0)
theorem zeros_size : zeros64.size = 64 := by simp [zeros64]

set_option maxHeartbeats 400000 in
theorem page_any (w : World) (n : Int) (h0 : 0 ≤ n) (h1 : n ≤ 255) :
    Calls Try.prog 13 #[.int .u8 n] w fun e w' => e = .returned (.string (pg n)) ∧ Keeps [] w w' := by
  have hmk : ∀ W : World, (Instr.makeSlice 56 (.int .i64 64) (.int .i64 64)).run Try.prog W = .ok (.slice (some ⟨W.heap.size, 0, none⟩) 64 64) (W.alloc (.cells zeros64 5)) := fun W => by kernel_rfl
  go_enter Try.func13, Try.ntmps13
  go_wp2
  go_loopw [4] (fun i wr => ∃ (k : Nat) (cs : Array Value), k ≤ 64 ∧ i = .int .i64 k ∧ Blk wr w.heap.size 5 cs ∧ cs.size = 64 ∧ (∀ j, j < k → cs[j]? = some (.int .u8 n)) ∧ Keeps [] w wr) (fun i _ => 64 - (intOf i).toNat)
  case atStart => exact ⟨0, zeros64, by omega, rfl, Blk.new _ _ _, zeros_size, by intro j hj; omega, (Keeps.refl _ _).alloc _⟩
  case round =>
    obtain ⟨k, cs, hk, rfl, hb, hs, hc, hkp⟩ := hrel
    by_cases hlt : k < 64
    · have hcell : wr.cell? ⟨w.heap.size, k, none⟩ = some (cs.getD k undef) := by rw [hb.cell]; simp [Array.getD, hs, hlt]
      have hfr := hb.frozen k
      have Hs := Lib.hid hs; clear hs
      have Hc := Lib.hid hc; clear hc
      go_wp2
      go_roundw
      case rel => 
        refine ⟨k + 1, _, by omega, by go_num, hb.set_ k _, ?_, ?_, hkp.setCell (.inr (Nat.le_refl _)) _⟩
        · simp [Hs.out]
        · intro j hj
          rw [Array.getElem?_setIfInBounds]
          split
          · rename_i e; subst e; simp [Hs.out, hlt]
          · exact Hc.out j (by omega)
      case measure => simp [intOf]; omega
    · obtain rfl : k = 64 := by omega
      have hcv := run_convert_bytes_back (P := Try.prog) wr 56 9 5 ⟨w.heap.size, 0, none⟩ 64 (List.replicate 64 (UInt8.ofNat n.toNat)) Try.underlying56 Try.underlying5 Try.underlying9 (fun j hj => by
        have hj' : j < 64 := by simpa using hj
        have : (⟨w.heap.size, 0, none⟩ : Addr).add j = ⟨w.heap.size, j, none⟩ := by unfold Addr.add; split <;> simp_all
        have e : (List.replicate 64 (UInt8.ofNat n.toNat))[j] = UInt8.ofNat n.toNat := List.getElem_replicate _
        rw [this, hb.cell, hc j hj', e]
        have : ((UInt8.ofNat n.toNat).toNat : Int) = n := by simp; omega
        rw [this])
      have hcv2 : (convert 56 9 (.slice (some ⟨w.heap.size, 0, none⟩) 64 64)).run Try.prog wr = .ok (.string (pg n)) wr := by
        simpa [pg] using hcv
      clear hcv
      go_wp2
      go_ret
      exact ⟨rfl, hkp⟩

/-- slices.Index over strings. -/
theorem index_any (w : World) (A : Option Addr) (cap : Nat) (L : List ByteArray) (x : ByteArray) (ho : w.ownsRow 0 9 1 (.slice A L.length cap) L.length (L.map .string)) :
    Calls Try.prog 27 #[.slice A L.length cap, .string x] w fun e w' => e = .returned (.int .i64 (idxI L x)) ∧ w = w' := by
  have hm := own_max ho
  obtain ⟨_, _, hv, _, _, hA⟩ := own_shape ho
  obtain ⟨rfl, -, rfl⟩ : A = _ ∧ L.length = _ ∧ cap = _ := by injection hv with h1 h2 h3; exact ⟨h1, rfl, h3⟩
  clear hv
  unfold maxLen at hm
  go_enter Try.func27, Try.ntmps27
  go_wp2
  go_loop [5, 8] (fun _ i => ∃ (k : Nat), k ≤ L.length ∧ i = .int .i64 k ∧ k ≤ idx L x) (fun _ i => L.length - (intOf i).toNat)
  case atStart => exact ⟨0, by omega, rfl, by omega⟩
  case round =>
    obtain ⟨k, hk, rfl, hi⟩ := hrel
    by_cases hlt : k < L.length
    · obtain ⟨g, rfl⟩ := hA (by omega)
      have hcell : w.cell? ⟨g, k, none⟩ = some (.string L[k]) := own_cell ho (by simp [hlt])
      by_cases he : (x.toList == L[k].toList) = true
      · go_wp2
        go_ret
        exact ⟨ret_int (by unfold idxI; rw [idx_eq hlt hi he, if_pos hlt]), rfl⟩
      · have he' : (x.toList == L[k].toList) = false := by simpa using he
        go_wp2
        go_round
        case rel => exact ⟨k + 1, by omega, by go_num, idx_gt hlt hi he'⟩
        case measure => simp [intOf]; omega
    · go_wp2
      go_ret
      exact ⟨ret_int (by unfold idxI; rw [if_neg (by omega)]), rfl⟩

end Go.Proofs.Ytfhnlkbmkfjpnaa
