/- The walks of the link's methods. -/
import Derived.Test.YtipmhhhhfnpdgaaOwn
import Derived.Test.YtipmhhhhfnpdgaaP1
import Derived.Test.YtipmhhhhfnpdgaaProg
import Derived.BigRegion
import Derived.Deep.QuietTactic
import Derived.BigQuiet
import Derived.WalkLawsBesides
import Derived.WalkSpells
import Derived.Handy
import Derived.Deep.RegionHeld3
import Derived.KernelRfl
namespace Go.Proofs.Ytipmhhhhfnpdgaa
open Go.RowKit

/-- The link s lies at block p, as a struct of type T; F are all its blocks. -/
structure LkAt (T : TypeId) (w : World) (F : List Nat) (p : Nat) (s : Lk) (A : Option Addr) (cap : Nat) : Prop where
  f : F = p :: fp (.slice A s.L.length cap)
  b : Blk w p T #[.slice A s.L.length cap, .bool s.cut]
  o : w.ownsRow 0 31 2 (.slice A s.L.length cap) s.L.length (pc s.L)
  m : s.L.length ≤ 500
  t : T ≠ 31
def LkRep (T : TypeId) (w : World) (F : List Nat) (p : Nat) (s : Lk) : Prop := ∃ A cap, LkAt T w F p s A cap

section
variable {T : TypeId} {w w' : World} {F G : List Nat} {p : Nat} {s : Lk} {A : Option Addr} {cap : Nat}
theorem LkAt.off (h : LkAt T w F p s A cap) : p ∉ fp (.slice A s.L.length cap) := own_blk_off h.o h.b (fun e => h.t e.symm)
theorem LkRep.lt (h : LkRep T w F p s) : ∀ g ∈ F, g < w.heap.size := by
  obtain ⟨A, cap, h⟩ := h
  intro g hg
  rw [h.f] at hg
  rcases List.mem_cons.1 hg with rfl | hg
  · exact h.b.lt
  · exact own_lt h.o hg
theorem LkRep.keep (h : LkRep T w F p s) (hk : Keeps G w w') (hd : ∀ g ∈ F, g ∉ G) : LkRep T w' F p s := by
  obtain ⟨A, cap, h⟩ := h
  have hf := h.f
  exact ⟨A, cap, hf, h.b.keep hk (hd p (by rw [hf]; simp)), own_keep h.o hk (fun g hg => hd g (by rw [hf]; simp [hg])), h.m, h.t⟩
theorem LkRep.cutc (h : LkRep T w F p s) : w.cell? ⟨p, 1, none⟩ = some (.bool s.cut) := by
  obtain ⟨A, cap, h⟩ := h
  exact h.b.cell 1
end

theorem has_any (w : World) (F : List Nat) (p : Nat) (s : Lk) (i : Int) (h : LkRep 53 w F p s) :
    Calls Try.prog 26 #[.pointer (some ⟨p, 0, none⟩), .int .i64 i] w fun e w' => e = .returned (.bool (hasI s.L i)) ∧ w = w' := by
  obtain ⟨A, cap, h⟩ := h
  have c0 : w.cell? ⟨p, 0, none⟩ = some (.slice A s.L.length cap) := h.b.cell 0
  have hm := h.m
  by_cases h1 : 0 ≤ i
  · by_cases h2 : i < s.L.length
    · have e : hasI s.L i = true := by unfold hasI; simp [h1, h2]
      have H := Lib.hid e; clear e
      go_enter Try.func26, Try.ntmps26
      go_wp2
      go_ret
      exact ⟨ret_bool H.out.symm, rfl⟩
    · have e : hasI s.L i = false := by unfold hasI; simp [h2]
      have H := Lib.hid e; clear e
      go_enter Try.func26, Try.ntmps26
      go_wp2
      go_ret
      exact ⟨ret_bool H.out.symm, rfl⟩
  · have e : hasI s.L i = false := by unfold hasI; simp [h1]
    have H := Lib.hid e; clear e
    go_enter Try.func26, Try.ntmps26
    go_wp2
    go_ret
    exact ⟨ret_bool H.out.symm, rfl⟩

theorem new_any (w : World) : Calls Try.prog 8 #[] w fun e w' => ∃ F p, e = .returned (.pointer (some ⟨p, 0, none⟩)) ∧ LkRep 53 w' F p ⟨[], false⟩ ∧ Keeps [] w w' ∧ ∀ g ∈ F, w.heap.size ≤ g := by
  go_enter Try.func8, Try.ntmps8
  go_wp2
  go_ret
  exact ⟨[w.heap.size], w.heap.size, rfl, ⟨none, 0, rfl, Blk.new _ _ _, World.ownsRow_nil _ _ _ _, by simp, by decide⟩, (Keeps.refl _ _).alloc _, by simp⟩

/-- slices.Delete of one packet. -/
theorem delete_any (w : World) (g n cap i : Nat) (xs : List Value) (ho : w.ownsRow 0 31 2 (.slice (some ⟨g, 0, none⟩) n cap) n xs) (h1c : ∀ u ∈ xs, u.oneCell' = true) (hi : i < n) (hn : n ≤ 1000000) :
    Calls Try.prog 27 #[.slice (some ⟨g, 0, none⟩) n cap, .int .i64 i, .int .i64 ((i : Int) + 1)] w fun e w' => e = .returned (.slice (some ⟨g, 0, none⟩) (n - 1) cap) ∧
      w'.ownsRow 0 31 2 (.slice (some ⟨g, 0, none⟩) (n - 1) cap) (n - 1) (xs.take (i * 2) ++ xs.drop ((i + 1) * 2)) ∧ Keeps [g] w w' := by
  obtain ⟨i0, hi0, hz0, hz1, hz2⟩ := info_parts (P := Try.prog) (e := 31) (z := .agg #[.int .i64 0, .string E0]) (size := 2) (bytes := 24) (by kernel_rfl)
  obtain ⟨cur, hb, hnc, hcm, hcs, hx⟩ := own_blk ho
  have hxl := own_len ho
  unfold maxLen at hcm
  have hnl : (xs.drop ((i + 1) * 2)).length = (n - (i + 1)) * 2 := by rw [List.length_drop, hxl]; omega
  have hcell : ∀ j, j < cap * 2 → w.drew.cell? ⟨g, j, none⟩ = some (cur.getD j undef) := fun j hj => by
    rw [hb.drew.cell]; simp [Array.getD, hcs, hj]
  obtain ⟨A, hA, hnews⟩ : ∃ A : Addr, (if cap = i + 1 then some (⟨g, 0, none⟩ : Addr) else some ⟨g, (i + 1) * 2, none⟩) = some A ∧ (∀ j u, (xs.drop ((i + 1) * 2))[j]? = some u → w.drew.cell? (A.add j) = some u) := by
    by_cases h : cap = i + 1
    · refine ⟨⟨g, 0, none⟩, by simp [h], fun j u hu => ?_⟩
      have h0 : (xs.drop ((i + 1) * 2)).length = 0 := by rw [hnl]; omega
      rw [List.length_eq_zero_iff.1 h0] at hu
      simp at hu
    · refine ⟨⟨g, (i + 1) * 2, none⟩, by simp [h], fun j u hu => ?_⟩
      rw [Addr.add_lit]
      rw [List.getElem?_drop] at hu
      exact own_cell (own_drew ho) hu
  have S1 := Lib.hid hnl
  have S2 := Lib.hid hnews
  have S3 : Hid (∀ u ∈ xs.drop ((i + 1) * 2), u.oneCell' = true) := fun u hu => h1c u (List.mem_of_mem_drop hu)
  have S4 : Hid (∀ j, j < (xs.drop ((i + 1) * 2)).length → (w.drew.cell? ⟨g, 0 + i * 2 + j, none⟩).isSome = true ∧ w.drew.frozen? ⟨g, 0 + i * 2 + j, none⟩ = false) := by
    intro j hj
    rw [hnl] at hj
    exact ⟨by rw [hcell _ (by omega)]; rfl, hb.drew.frozen _⟩
  have hwr : IntKind.i64.wrap ((i : Int) + 1) = (i : Int) + 1 := by rw [IntKind.wrap_i64]; omega
  have hp0 : (0 : Int) ≤ (i : Int) + 1 := by omega
  have hp1 : (i : Int) + 1 ≤ (n : Int) := by omega
  have hp2 : ((i : Int) + 1).toNat = i + 1 := by omega
  have HB := Lib.hid hb
  have HX := Lib.hid hx
  have HO := Lib.hid ho
  have HC := Lib.hid hcs
  clear hx hb ho hnl hnews hcell hxl hcs h1c
  have hic : i ≤ cap := by omega
  go_enter Try.func27, Try.ntmps27
  go_wp2_with fail
  go_region_law (refine step_append_room rfl (.tmp 22) (.tmp 25) 27 rfl 31 i0 2 Try.underlying27 hi0 hz1 g 0 i cap (by simp [Act.eval, Act.put]) A (n - (i + 1)) (cap - (i + 1)) (xs.drop ((i + 1) * 2)) (by simp [Act.eval, Act.put]) S1.out S2.out S3.out (by omega) S4.out ?_)
  have e1 : i + (n - (i + 1)) = n - 1 := by omega
  rw [e1]
  clear e1 hA
  go_wp2_with fail
  have hb1 := HB.out.drew.setCells (xs.drop ((i + 1) * 2)) (i * 2) (by rw [S1.out, HC.out]; omega)
  have hlen1 : (splice cur.toList (i * 2) (xs.drop ((i + 1) * 2))).length = cap * 2 := by
    rw [splice_len (by rw [S1.out, Array.length_toList, HC.out]; omega), Array.length_toList, HC.out]
  have hs1 : n - (n - 1) = 1 := by omega
  have hclr := run_clear_one (P := Try.prog) (w.drew.setCells g (i * 2) (xs.drop ((i + 1) * 2))) 27 31 0 (.agg #[.int .i64 0, .string E0]) [.int .i64 0, .string E0] Try.underlying27 (fun w => by kernel_rfl) (by kernel_rfl)
    (by simp [Value.oneCell']) g ((n - 1) * 2) (cap - (n - 1))
    (fun j hj => by rw [hb1.cell]; simp only [List.length_cons, List.length_nil] at hj; rw [List.getElem?_toArray, List.getElem?_eq_getElem (by rw [hlen1]; omega)]; rfl)
    (fun j _ => hb1.frozen _)
  rw [hs1, hclr]
  have hb2 := hb1.setCells [.int .i64 0, .string E0] ((n - 1) * 2) (by rw [List.size_toArray, hlen1]; simp; omega)
  have hk2 : Keeps [g] w ((w.drew.setCells g (i * 2) (xs.drop ((i + 1) * 2))).setCells g ((n - 1) * 2) [.int .i64 0, .string E0]) := ((Keeps.refl [g] w).drew.setCells _ _ (.inl (by simp))).setCells _ _ (.inl (by simp))
  have ho2 : ((w.drew.setCells g (i * 2) (xs.drop ((i + 1) * 2))).setCells g ((n - 1) * 2) [.int .i64 0, .string E0]).ownsRow 0 31 2 (.slice (some ⟨g, 0, none⟩) (n - 1) cap) (n - 1) (xs.take (i * 2) ++ xs.drop ((i + 1) * 2)) := by
    refine own_of_blk hb2 (by omega) (by unfold maxLen; omega) ?_ ?_
    · rw [List.size_toArray, splice_len (by rw [List.toList_toArray, hlen1]; simp; omega), List.toList_toArray, hlen1]
    · rw [List.toList_toArray]
      have e1 : ∀ Y : List Value, Y.length = cap * 2 → (splice Y ((n - 1) * 2) [.int .i64 0, .string E0]).take ((n - 1) * 2) = Y.take ((n - 1) * 2) := by
        intro Y hY
        unfold splice
        rw [List.append_assoc, List.take_append_of_le_length (by rw [List.length_take, hY]; omega), List.take_take, Nat.min_self]
      rw [List.toList_toArray, e1 _ hlen1]
      unfold splice
      have e2 : (cur.toList.take (i * 2)) = xs.take (i * 2) := by rw [← HX.out, List.take_take]; congr 1; omega
      rw [e2, List.take_append_of_le_length (by simp only [List.length_append, S1.out]; rw [← e2]; simp [HC.out]; omega)]
      apply List.take_of_length_le
      simp only [List.length_append, S1.out]
      rw [← e2]
      simp [HC.out]
      omega
  generalize (w.drew.setCells g (i * 2) (xs.drop ((i + 1) * 2))).setCells g ((n - 1) * 2) [.int .i64 0, .string E0] = w2 at *
  clear hb1 hlen1 hclr hb2 hs1
  go_wp2
  go_ret
  exact ⟨rfl, ho2, hk2⟩
end Go.Proofs.Ytipmhhhhfnpdgaa
