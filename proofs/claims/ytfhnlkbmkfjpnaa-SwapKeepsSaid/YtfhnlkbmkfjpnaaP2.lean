/- What one operation does to the device, case by case; and an argument that is a list of operations. -/
import Derived.Test.YtfhnlkbmkfjpnaaW6
import Derived.Laws.BitsAllLaws
import Derived.Laws.BitsLemmas
namespace Go.Proofs.Ytfhnlkbmkfjpnaa
open Go.RowKit

theorem opk_range (d : Int) : 0 ≤ opk d ∧ opk d ≤ 7 := by
  have h : opk d = ((BitVec.ofInt 64 d &&& 7#64).toNat : Int) := by
    show IntKind.i64.wrap ((BitVec.ofInt 64 d &&& BitVec.ofInt 64 7).toNat : Int) = _
    have e : BitVec.ofInt 64 7 = 7#64 := rfl
    have hx : (BitVec.ofInt 64 d &&& 7#64).toNat ≤ 7 := by rw [BitVec.toNat_and]; exact Nat.and_le_right
    rw [e, IntKind.wrap_i64]
    omega
  have hx : (BitVec.ofInt 64 d &&& 7#64).toNat ≤ 7 := by rw [BitVec.toNat_and]; exact Nat.and_le_right
  omega

variable {s : Sw} {d m b : Int}
theorem step_get_yes (h : opk d = 3 ∨ opk d = 4) (hb : hasB s.L m = true) : s.step d m b = ((s.L.getD m.toNat E0, 0, 0), ⟨s.L, 0, s.ret + s.due⟩) := by
  unfold Sw.step Sw.get; rw [if_pos h, hb]; rfl
theorem step_get_no (h : opk d = 3 ∨ opk d = 4) (hb : hasB s.L m = false) : s.step d m b = ((E0, 0, 4), s) := by
  unfold Sw.step Sw.get; rw [if_pos h, hb]; rfl
theorem step_free_yes (h : opk d = 5 ∨ opk d = 6) (hb : hasB s.L m = true) : s.step d m b = ((E0, 0, 0), ⟨s.L.set m.toNat E0, s.due, s.ret⟩) := by
  unfold Sw.step Sw.free; rw [if_neg (by omega), if_pos h, hb]; rfl
theorem step_free_no (h : opk d = 5 ∨ opk d = 6) (hb : hasB s.L m = false) : s.step d m b = ((E0, 0, 0), s) := by
  unfold Sw.step Sw.free; rw [if_neg (by omega), if_pos h, hb]; rfl
theorem step_fail (h : opk d = 7) : s.step d m b = ((E0, 0, 0), ⟨s.L, clampF m, s.ret⟩) := by
  unfold Sw.step Sw.fail; rw [if_neg (by omega), if_neg (by omega), if_pos h]
theorem step_put_yes (h : opk d < 3) (hs : (bodyS d m b).size = 64) (hf : first s.L < s.L.length) :
    s.step d m b = ((E0, (first s.L : Int), 0), ⟨s.L.set (first s.L) (bodyS d m b), 0, s.ret + s.due⟩) := by
  unfold Sw.step Sw.put
  rw [if_neg (by omega), if_neg (by omega), if_neg (by omega), if_pos ⟨hs, cnt_lt_of_first hf⟩]
  rfl
theorem step_put_no (h : opk d < 3) (hs : (bodyS d m b).size ≠ 64 ∨ s.L.length ≤ first s.L) : s.step d m b = ((E0, -1, 6), s) := by
  unfold Sw.step Sw.put
  have : ¬((bodyS d m b).size = 64 ∧ cnt s.L < s.L.length) := by
    rintro ⟨h1, h2⟩
    have := first_lt h2
    omega
  rw [if_neg (by omega), if_neg (by omega), if_neg (by omega), if_neg this]
  rfl
theorem body_size (d m b : Int) : (bodyS d m b).size ≤ 64 := by
  unfold bodyS
  split
  · rw [ByteArray.size_extract, pg_size]; omega
  · rw [pg_size]; omega
theorem body_size' (h : opk d ≠ 2) : (bodyS d m b).size = 64 := by
  unfold bodyS
  rw [if_neg (fun h1 => h h1.1), pg_size]
theorem step_len : (s.step d m b).2.L.length = s.L.length := by
  unfold Sw.step
  split
  · unfold Sw.get; split <;> rfl
  · split
    · unfold Sw.free; split <;> simp
    · split
      · rfl
      · unfold Sw.put; split <;> simp
theorem step_ret (_h0 : 0 ≤ s.due) (h1 : s.due ≤ 1000) : (s.step d m b).2.ret ≤ s.ret + 1000 := by
  unfold Sw.step
  split
  · unfold Sw.get; split <;> simp <;> omega
  · split
    · unfold Sw.free; split <;> simp <;> omega
    · split
      · simp [Sw.fail]; omega
      · unfold Sw.put; split <;> simp <;> omega
theorem set_same {L : List ByteArray} {k : Nat} (hk : k < L.length) (he : emp L[k] = true) : L.set k E0 = L := by
  have := emp_eq he
  rw [← this]
  exact List.set_getElem_self hk
theorem first_le (L : List ByteArray) : first L ≤ L.length := by rw [first_eq]; exact List.findIdx_le_length

/-- The argument's operations lie from ⟨bl, off⟩ on. -/
structure OpsAt (w : World) (bl off n : Nat) (d m b : Nat → Int) : Prop where
  lt : bl < w.heap.size
  c0 : ∀ i, i < n → w.cell? ⟨bl, off + i * 3, none⟩ = some (.int .i64 (d i))
  c1 : ∀ i, i < n → w.cell? ⟨bl, off + i * 3 + 1, none⟩ = some (.int .i64 (m i))
  c2 : ∀ i, i < n → w.cell? ⟨bl, off + i * 3 + 2, none⟩ = some (.int .u8 (b i))
  rd : ∀ i, i < n → -9223372036854775808 ≤ d i ∧ d i ≤ 9223372036854775807
  rm : ∀ i, i < n → -9223372036854775808 ≤ m i ∧ m i ≤ 9223372036854775807
  rb : ∀ i, i < n → 0 ≤ b i ∧ b i ≤ 255
theorem OpsAt.keep {w w' : World} {bl off n : Nat} {d m b : Nat → Int} (h : OpsAt w bl off n d m b) (hk : Keeps [] w w') : OpsAt w' bl off n d m b :=
  ⟨Nat.lt_of_lt_of_le h.lt hk.size, fun i hi => (hk.cell (p := ⟨bl, _, none⟩) h.lt (by simp)).trans (h.c0 i hi), fun i hi => (hk.cell (p := ⟨bl, _, none⟩) h.lt (by simp)).trans (h.c1 i hi),
    fun i hi => (hk.cell (p := ⟨bl, _, none⟩) h.lt (by simp)).trans (h.c2 i hi), h.rd, h.rm, h.rb⟩
end Go.Proofs.Ytfhnlkbmkfjpnaa
