/- The reference's Levels. -/
import Derived.Test.YtnnoekcnhdcodaaR4
namespace Go.Proofs.Ytnnoekcnhdcodaa
open Go.RowKit

def lstep (s : Nat × Int) (x : Nat × E) : Nat × Int := if ((x.1 / 16 : Nat) : Int) = s.2 then s else (s.1 + 1, ((x.1 / 16 : Nat) : Int))
theorem lv_fold (m : Nat → Option E) (n : Nat) : lv m n = (ents m n).foldl lstep (0, -1) := by
  induction n with
  | zero => rfl
  | succ n ih =>
    cases h : m n with
    | none => rw [lv_none h, ents_none h, ih]
    | some e =>
      rw [ents_some h, List.foldl_append, ← ih]
      show _ = lstep (lv m n) (n, e)
      unfold lstep
      by_cases h2 : ((n / 16 : Nat) : Int) = (lv m n).2
      · rw [lv_same h h2, if_pos h2]
      · rw [lv_new h h2, if_neg h2]
/-- The number of groups of the first k entries, and the last one. -/
def lvL (L : List (Nat × E)) (k : Nat) : Nat × Int := (L.take k).foldl lstep (0, -1)
theorem lvL_succ {L : List (Nat × E)} {k : Nat} (h : k < L.length) : lvL L (k + 1) = lstep (lvL L k) L[k] := by
  unfold lvL
  rw [List.take_succ_eq_append_getElem h, List.foldl_append]
  rfl
theorem lvL_last {L : List (Nat × E)} {k : Nat} (h : k < L.length) : (lvL L (k + 1)).2 = ((L[k].1 / 16 : Nat) : Int) := by
  rw [lvL_succ h]
  unfold lstep
  split
  · rename_i e; exact e.symm
  · rfl
theorem lvL_le (L : List (Nat × E)) (k : Nat) : (lvL L k).1 ≤ k := by
  induction k with
  | zero => simp [lvL]
  | succ k ih =>
    by_cases h : k < L.length
    · rw [lvL_succ h]; unfold lstep; split
      · omega
      · simp only []; omega
    · unfold lvL at ih ⊢
      rw [List.take_of_length_le (by omega)] at ih ⊢
      omega
theorem lvL_all (m : Nat → Option E) : (lvL (ents m 256) (ents m 256).length).1 = levs m 16 := by
  unfold lvL
  rw [List.take_length, ← lv_fold]
  exact (lv_levs m 16).1

set_option maxRecDepth 100000 in
set_option maxHeartbeats 1600000 in
theorem rlevels_any (w : World) (G : List Nat) (q : Nat) (m : Nat → Option E) (h : RfRep w G q m) :
    Calls Try.prog 19 #[.pointer (some ⟨q, 0, none⟩)] w fun e w' => e = .returned (.int .i64 (levs m 16)) ∧ RfRep w' G q m ∧ Keeps [] w w' := by
  have hR := Lib.hid h
  obtain ⟨A, cap, h⟩ := h
  obtain ⟨hn, hcap, hmax, hA⟩ := h.len
  have hb := h.b
  have ho := h.o
  have HE := Lib.hid (fun _ : Unit => lvL_all m)
  have HB := Lib.hid (ents_lt m 256)
  generalize hL : ents m 256 = L at *
  clear hL h
  have hql := hb.lt
  go_enter Try.func19, Try.ntmps19
  go_wp2
  go_loopw [3, 4] (fun n i wr => ∃ k : Nat, k ≤ L.length ∧ i = .int .i64 k ∧ n = .int .i64 (lvL L k).1 ∧ Keeps [] w wr) (fun _ i _ => L.length - (intOf i).toNat)
  case atStart => exact ⟨0, by omega, rfl, rfl, Keeps.refl _ _⟩
  case round =>
    obtain ⟨k, hk, rfl, rfl, kp⟩ := hrel
    have c0 : wr.cell? ⟨q, 0, none⟩ = some (.slice A L.length cap) := (hb.keep kp (by simp)).cell 0
    have hle := lvL_le L k
    by_cases hlt : k < L.length
    · obtain ⟨g, rfl⟩ := hA (by omega)
      have o1 := own_keep ho kp (by simp)
      have a0 : wr.cell? ⟨g, k * 5, none⟩ = some (.int .i64 L[k].1) := own_cell o1 (by have := cells5_at L k 0 hlt (by omega); simpa [c5] using this)
      have hi1 : (k : Int) < (L.length : Int) := by omega
      have hi0 : (0 : Int) ≤ (k : Int) := by omega
      have HS := Lib.hid (fun _ : Unit => lvL_succ hlt)
      by_cases hk0 : k = 0
      · have t0 : ((k : Int) == 0) = true := by simp [hk0]
        have HN : Hid (lvL L (k + 1) = ((lvL L k).1 + 1, ((L[k].1 / 16 : Nat) : Int))) := Lib.hid (by
          rw [HS.out ()]
          have : (lvL L k).2 = -1 := by subst hk0; rfl
          unfold lstep
          rw [if_neg (by rw [this]; omega)])
        have bx : ((L[k].1 : Nat) : Int) < 256 := by have := HB.out L[k] (List.getElem_mem _); omega
        generalize hx : L[k].1 = x at *
        have bx0 : (0 : Int) ≤ (x : Int) := by omega
        clear hx HS hk0 o1 hA
        go_wp2_with fail
        go_quiet (fail)
        go_wp2
        go_roundw
        case rel => exact ⟨k + 1, by omega, by go_num, by rw [HN.out]; go_num, kp.drewN _⟩
        case measure => simp [intOf]; omega
      · obtain ⟨j, rfl⟩ : ∃ j, k = j + 1 := ⟨k - 1, by omega⟩
        have hj : j < L.length := by omega
        have a1 : wr.cell? ⟨g, j * 5, none⟩ = some (.int .i64 L[j].1) := own_cell o1 (by have := cells5_at L j 0 hj (by omega); simpa [c5] using this)
        have HLa := Lib.hid (fun _ : Unit => lvL_last hj)
        have t0 : ((j : Int) + 1 == 0) = false := by simp; omega
        have w1 : IntKind.i64.wrap ((j : Int) + 1 - 1) = (j : Int) := by rw [IntKind.wrap_i64]; omega
        have w2 : (0 : Int) ≤ (j : Int) + 1 := by omega
        have w3 : (j : Int) + 1 < (L.length : Int) := by omega
        have w4 : ((j : Int) + 1).toNat = j + 1 := by omega
        have hj0 : (0 : Int) ≤ (j : Int) := by omega
        have hj1 : (j : Int) < (L.length : Int) := by omega
        have HN : Hid (lvL L (j + 1 + 1) = if ((L[j + 1].1 / 16 : Nat) : Int) = ((L[j].1 / 16 : Nat) : Int) then lvL L (j + 1) else ((lvL L (j + 1)).1 + 1, ((L[j + 1].1 / 16 : Nat) : Int))) := Lib.hid (by
          rw [HS.out ()]
          unfold lstep
          rw [HLa.out ()])
        have bx : ((L[j + 1].1 : Nat) : Int) < 256 := by have := HB.out L[j + 1] (List.getElem_mem _); omega
        have bY : ((L[j].1 : Nat) : Int) < 256 := by have := HB.out L[j] (List.getElem_mem _); omega
        generalize hx : L[j + 1].1 = x at *
        generalize hy : L[j].1 = y at *
        have bx0 : (0 : Int) ≤ (x : Int) := by omega
        have by0 : (0 : Int) ≤ (y : Int) := by omega
        clear hx hy HS HLa hk0 o1 hA
        by_cases hxy : x / 16 = y / 16
        · have t1 : ((x : Int) / 16 != (y : Int) / 16) = false := by simp; omega
          have HX := Lib.hid hxy
          clear hxy
          go_wp2_with fail
          go_quiet (fail)
          go_wp2
          go_roundw
          case rel => exact ⟨j + 1 + 1, by omega, by go_num, by rw [HN.out, if_pos (by rw [HX.out])], kp.drewN _⟩
          case measure => simp [intOf]; omega
        · have t1 : ((x : Int) / 16 != (y : Int) / 16) = true := by simp; omega
          have HX := Lib.hid hxy
          clear hxy
          go_wp2_with fail
          go_quiet (fail)
          go_wp2
          go_roundw
          case rel => exact ⟨j + 1 + 1, by omega, by go_num, by rw [HN.out, if_neg (by have := HX.out; omega)]; go_num, kp.drewN _⟩
          case measure => simp [intOf]; omega
    · obtain rfl : k = L.length := by omega
      go_wp2
      go_ret
      rw [HE.out ()]
      exact ⟨rfl, hR.out.keep kp (by simp), kp⟩
end Go.Proofs.Ytnnoekcnhdcodaa
