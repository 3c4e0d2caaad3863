/- An argument that is a list of bytes, opened. -/
import Derived.Test.YtcoecpglnabbpaaInts
import Derived.Test.YtcoecpglnabbpaaP3
namespace Go.Proofs.Ytcoecpglnabbpaa
open Go.ChangeShapes Go.WideShapes Go.ChangeAt Go.RowKit Go.Deep

/-- The argument's bytes lie from ⟨bl, off⟩ on. -/
structure BytesAt (w : World) (bl off n : Nat) (z : Nat → UInt8) : Prop where
  lt : bl < w.heap.size
  c : ∀ i, i < n → w.cell? ⟨bl, off + i, none⟩ = some (.int .u8 (z i).toNat)
theorem BytesAt.keep {w w' : World} {bl off n : Nat} {z : Nat → UInt8} (h : BytesAt w bl off n z) (hk : Keeps [] w w') : BytesAt w' bl off n z :=
  ⟨Nat.lt_of_lt_of_le h.lt hk.size, fun i hi => (hk.cell (p := ⟨bl, _, none⟩) h.lt (by simp)).trans (h.c i hi)⟩
theorem bounds_u8 {z : Int} (h : (Lit.int .u8 z).wf = true) : 0 ≤ z ∧ z ≤ 255 := by
  simp [Lit.wf] at h
  have h1 : IntKind.u8.min = 0 := rfl
  have h2 : IntKind.u8.max = 255 := rfl
  omega
theorem u8_of {z : Int} (h : 0 ≤ z ∧ z ≤ 255) : ((UInt8.ofNat z.toNat).toNat : Int) = z := by
  have : (UInt8.ofNat z.toNat).toNat = z.toNat := toNat_ofNat (by omega)
  omega
theorem open_bytes {H : Type} {enc : TypeId × Value → H} {w : World} {base base' : Nat} {spare : Nat → Bool} {held : Bool} {v : Value} {d : DataW H} {ps : List MemPlace} {r : Reach}
    (ho : Value.okWide Try.prog w r base' 27 v) (h : DataW.Trod enc Try.prog w base spare held 27 v d ps) : ∃ (A : Option Addr) (n c : Nat) (z : Nat → UInt8), v = .slice A n c ∧ (0 < n → ∃ bl off, A = some ⟨bl, off, none⟩ ∧ BytesAt w bl off n z) ∧ n ≤ 9223372036854775807 := by
  obtain ⟨a1, l1, c1, rfl⟩ := okWide_slice Try.underlying27 ho
  obtain ⟨fuel, h⟩ := h
  rcases Go.ChangeShapes.open_ints Try.underlying27 Try.underlying5 (by kernel_rfl) h with ⟨hcs, _⟩ | ⟨a, len, cap, ss, hcs, _, hl, hm, hss, _, hc, hr⟩
  · have hv : Value.slice a1 l1 c1 = .slice none 0 0 := by simpa [Value.cells] using hcs
    exact ⟨none, 0, 0, fun _ => 0, hv, fun h => absurd h (by omega), by omega⟩
  · have hv : Value.slice a1 l1 c1 = .slice (some a) len cap := by simpa [Value.cells] using hcs
    unfold maxLen at hm
    have hls : len ≤ ss.length := by rw [hss]; split <;> omega
    refine ⟨some a, len, cap, fun i => UInt8.ofNat (ss.getD i 0).toNat, hv, fun h0 => ?_, by omega⟩
    obtain ⟨b, off, rfl, hb⟩ := addr_plain (hc 0 (by omega))
    refine ⟨b, off, rfl, hb, fun i hi => ?_⟩
    have h1 := hc i (by omega)
    rw [add_plain] at h1
    have hi' : i < ss.length := by omega
    have e : ss.getD i 0 = ss[i] := by simp [hi']
    have h2 := bounds_u8 (hr _ (List.getElem_mem hi'))
    rw [← e] at h2
    rw [u8_of h2]
    exact h1
end Go.Proofs.Ytcoecpglnabbpaa
