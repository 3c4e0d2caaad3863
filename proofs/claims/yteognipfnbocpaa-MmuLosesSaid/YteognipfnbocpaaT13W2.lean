/- slices.Delete, slices.Clone; List, Copy. -/
import Derived.Test.YteognipfnbocpaaT13W1
namespace Go.Proofs.Yteognipfnbocpaa.T13
open Go.RowKit

theorem info41 : (Try.prog.info? 41).map (fun i => (i.zero, i.size, i.bytes)) = some (some (.agg #[.int .i64 0, .int .i64 0, .int .i64 0, .bool false]), 4, 32) := by kernel_rfl
set_option maxRecDepth 100000 in
set_option maxHeartbeats 1600000 in
/-- slices.Delete of one entry. -/
theorem delete_any (w : World) (g n cap i : Nat) (xs : List Value) (ho : w.ownsRow 0 41 4 (.slice (some ⟨g, 0, none⟩) n cap) n xs) (h1c : ∀ u ∈ xs, u.oneCell' = true) (hi : i < n) (hn : n ≤ 1000000) :
    Calls Try.prog 58 #[.slice (some ⟨g, 0, none⟩) n cap, .int .i64 i, .int .i64 ((i : Int) + 1)] w fun e w' => e = .returned (.slice (some ⟨g, 0, none⟩) (n - 1) cap) ∧
      w'.ownsRow 0 41 4 (.slice (some ⟨g, 0, none⟩) (n - 1) cap) (n - 1) (xs.take (i * 4) ++ xs.drop ((i + 1) * 4)) ∧ Keeps [g] w w' := by
  obtain ⟨i0, hi0, hz0, hz1, hz2⟩ := info_parts (P := Try.prog) (e := 41) (z := .agg #[.int .i64 0, .int .i64 0, .int .i64 0, .bool false]) (size := 4) (bytes := 32) (by kernel_rfl)
  obtain ⟨cur, hb, hnc, hcm, hcs, hx⟩ := own_blk ho
  have hxl := own_len ho
  unfold maxLen at hcm
  have hnl : (xs.drop ((i + 1) * 4)).length = (n - (i + 1)) * 4 := by rw [List.length_drop, hxl]; omega
  have hcell : ∀ j, j < cap * 4 → w.drew.cell? ⟨g, j, none⟩ = some (cur.getD j undef) := fun j hj => by
    rw [hb.drew.cell]; simp [Array.getD, hcs, hj]
  obtain ⟨A, hA, hnews⟩ : ∃ A : Addr, (if cap = i + 1 then some (⟨g, 0, none⟩ : Addr) else some ⟨g, (i + 1) * 4, none⟩) = some A ∧ (∀ j u, (xs.drop ((i + 1) * 4))[j]? = some u → w.drew.cell? (A.add j) = some u) := by
    by_cases h : cap = i + 1
    · refine ⟨⟨g, 0, none⟩, by simp [h], fun j u hu => ?_⟩
      have h0 : (xs.drop ((i + 1) * 4)).length = 0 := by rw [hnl]; omega
      rw [List.length_eq_zero_iff.1 h0] at hu
      simp at hu
    · refine ⟨⟨g, (i + 1) * 4, none⟩, by simp [h], fun j u hu => ?_⟩
      rw [Addr.add_lit]
      rw [List.getElem?_drop] at hu
      exact own_cell (own_drew ho) hu
  have S1 := Lib.hid hnl
  have S2 := Lib.hid hnews
  have S3 : Hid (∀ u ∈ xs.drop ((i + 1) * 4), u.oneCell' = true) := fun u hu => h1c u (List.mem_of_mem_drop hu)
  have S4 : Hid (∀ j, j < (xs.drop ((i + 1) * 4)).length → (w.drew.cell? ⟨g, 0 + i * 4 + j, none⟩).isSome = true ∧ w.drew.frozen? ⟨g, 0 + i * 4 + j, none⟩ = false) := by
    intro j hj
    rw [hnl] at hj
    exact ⟨by rw [hcell _ (by omega)]; rfl, hb.drew.frozen _⟩
  have hwr : IntKind.i64.wrap ((i : Int) + 1) = (i : Int) + 1 := by rw [IntKind.wrap_i64]; omega
  have hp0 : (0 : Int) ≤ (i : Int) + 1 := by omega
  have hp1 : (i : Int) + 1 ≤ (n : Int) := by omega
  have hp2 : ((i : Int) + 1).toNat = i + 1 := by omega
  have HB := Lib.hid hb
  have HX := Lib.hid hx
  have HO := Lib.hid ho
  have HC := Lib.hid hcs
  clear hx hb ho hnl hnews hcell hxl hcs h1c
  have hic : i ≤ cap := by omega
  go_enter Try.func58, Try.ntmps58
  go_wp2_with fail
  go_region_law (refine step_append_room rfl (.tmp 22) (.tmp 25) 38 rfl 41 i0 4 Try.underlying38 hi0 hz1 g 0 i cap (by simp [Act.eval, Act.put]) A (n - (i + 1)) (cap - (i + 1)) (xs.drop ((i + 1) * 4)) (by simp [Act.eval, Act.put]) S1.out S2.out S3.out (by omega) S4.out ?_)
  have e1 : i + (n - (i + 1)) = n - 1 := by omega
  rw [e1]
  clear e1 hA
  go_wp2_with fail
  have hb1 := HB.out.drew.setCells (xs.drop ((i + 1) * 4)) (i * 4) (by rw [S1.out, HC.out]; omega)
  have hlen1 : (splice cur.toList (i * 4) (xs.drop ((i + 1) * 4))).length = cap * 4 := by
    rw [splice_len (by rw [S1.out, Array.length_toList, HC.out]; omega), Array.length_toList, HC.out]
  have hs1 : n - (n - 1) = 1 := by omega
  have hclr := run_clear_one (P := Try.prog) (w.drew.setCells g (i * 4) (xs.drop ((i + 1) * 4))) 38 41 0 (.agg #[.int .i64 0, .int .i64 0, .int .i64 0, .bool false]) [.int .i64 0, .int .i64 0, .int .i64 0, .bool false] Try.underlying38 (fun w => by kernel_rfl) (by kernel_rfl)
    (by simp [Value.oneCell']) g ((n - 1) * 4) (cap - (n - 1))
    (fun j hj => by rw [hb1.cell]; simp only [List.length_cons, List.length_nil] at hj; rw [List.getElem?_toArray, List.getElem?_eq_getElem (by rw [hlen1]; omega)]; rfl)
    (fun j _ => hb1.frozen _)
  rw [hs1, hclr]
  have hb2 := hb1.setCells [.int .i64 0, .int .i64 0, .int .i64 0, .bool false] ((n - 1) * 4) (by rw [List.size_toArray, hlen1]; simp; omega)
  have hk2 : Keeps [g] w ((w.drew.setCells g (i * 4) (xs.drop ((i + 1) * 4))).setCells g ((n - 1) * 4) [.int .i64 0, .int .i64 0, .int .i64 0, .bool false]) := ((Keeps.refl [g] w).drew.setCells _ _ (.inl (by simp))).setCells _ _ (.inl (by simp))
  have ho2 : ((w.drew.setCells g (i * 4) (xs.drop ((i + 1) * 4))).setCells g ((n - 1) * 4) [.int .i64 0, .int .i64 0, .int .i64 0, .bool false]).ownsRow 0 41 4 (.slice (some ⟨g, 0, none⟩) (n - 1) cap) (n - 1) (xs.take (i * 4) ++ xs.drop ((i + 1) * 4)) := by
    refine own_of_blk hb2 (by omega) (by unfold maxLen; omega) ?_ ?_
    · rw [List.size_toArray, splice_len (by rw [List.toList_toArray, hlen1]; simp; omega), List.toList_toArray, hlen1]
    · rw [List.toList_toArray]
      have e1 : ∀ Y : List Value, Y.length = cap * 4 → (splice Y ((n - 1) * 4) [.int .i64 0, .int .i64 0, .int .i64 0, .bool false]).take ((n - 1) * 4) = Y.take ((n - 1) * 4) := by
        intro Y hY
        unfold splice
        rw [List.append_assoc, List.take_append_of_le_length (by rw [List.length_take, hY]; omega), List.take_take, Nat.min_self]
      rw [List.toList_toArray, e1 _ hlen1]
      unfold splice
      have e2 : (cur.toList.take (i * 4)) = xs.take (i * 4) := by rw [← HX.out, List.take_take, Nat.min_eq_left (by omega)]
      rw [e2, List.take_append_of_le_length (by simp only [List.length_append, S1.out]; rw [← e2]; simp [HC.out]; omega)]
      apply List.take_of_length_le
      simp only [List.length_append, S1.out]
      rw [← e2]
      simp [HC.out]
      omega
  generalize (w.drew.setCells g (i * 4) (xs.drop ((i + 1) * 4))).setCells g ((n - 1) * 4) [.int .i64 0, .int .i64 0, .int .i64 0, .bool false] = w2 at *
  clear hb1 hlen1 hclr hb2 hs1
  go_wp2
  go_ret
  exact ⟨rfl, ho2, hk2⟩
/-- slices.Clone over entries. -/
theorem clone_any (w : World) (A : Option Addr) (n cap : Nat) (xs : List Value) (ho : w.ownsRow 0 41 4 (.slice A n cap) n xs) (h1 : ∀ u ∈ xs, u.oneCell' = true) (hn : n ≤ 1000000) :
    Calls Try.prog 49 #[.slice A n cap] w fun e w' => ∃ v, e = .returned v ∧ w'.ownsRow 0 41 4 v n xs ∧ Keeps [] w w' ∧ ∀ g ∈ fp v, w.heap.size ≤ g := by
  rcases A with _ | a
  · have hx : n = 0 ∧ cap = 0 := by
      rcases ho.2 with ⟨h, h0⟩ | ⟨g, c, cur, h, _⟩
      · injection h with _ _ h2; exact ⟨h0, h2⟩
      · injection h with h; cases h
    obtain ⟨rfl, rfl⟩ := hx
    have he := fun W => Lib.run_eql_slice_nil (P := Try.prog) W 38 41 none 0 0 0 0 Try.underlying38
    go_enter Try.func49, Try.ntmps49
    go_wp2
    go_ret
    exact ⟨_, rfl, ho, Keeps.refl _ _, by simp⟩
  · have he := fun W => Lib.run_eql_slice_nil (P := Try.prog) W 38 41 (some a) n cap 0 0 Try.underlying38
    go_enter Try.func49, Try.ntmps49
    go_wp2_with (at_builtin; refine wpList_app _ rfl (.tmp 5) (.tmp 6) _ rfl 41 (.agg #[.int .i64 0, .int .i64 0, .int .i64 0, .bool false]) 4 32 Try.underlying38 info41 rfl (by omega) (.slice (some ⟨w.heap.size, 0, none⟩) 0 0) 0 [] rfl (own_of_blk (Blk.new w 41 #[]) (by omega) (by omega) rfl rfl) _ _ _ _ xs rfl (reads_own (own_keep ho ((Keeps.refl [] _).alloc _) (by simp))) h1 (by unfold maxLen; omega) (by omega) ?_)
    intro v' w' ho' hk' hf'
    go_wp2
    go_ret
    have hk1 : Keeps [] w (w.alloc (.cells #[] 41)) := (Keeps.refl _ _).alloc _
    refine ⟨v', rfl, by simpa using ho', hk1.trans hk' (by simp), fun g hg => ?_⟩
    rcases hf' g hg with h2 | h2
    · have : g = w.heap.size := by simpa using h2
      omega
    · omega


theorem list_any (w : World) (F : List Nat) (p : Nat) (s : Tl) (hn : s.n ≤ 1000) (h : TlRep 83 w F p s) :
    Calls Try.prog 27 #[.pointer (some ⟨p, 0, none⟩)] w fun e w' => ∃ v, e = .returned v ∧ w'.ownsRow 0 41 4 v s.L.length (es s.L) ∧ Keeps [] w w' ∧ ∀ g ∈ fp v, w.heap.size ≤ g := by
  obtain ⟨A, cap, h⟩ := h
  have c1 : w.cell? ⟨p, 1, none⟩ = some (.slice A s.L.length cap) := h.b.cell 1
  have hm := h.m
  go_enter Try.func27, Try.ntmps27
  go_wp2_with fail
  refine (clone_any w A s.L.length cap _ h.o (es_one _) (by omega)).mono ?_
  rintro e w1 ⟨v, rfl, ho, hk, hf⟩
  go_wp2
  go_ret
  exact ⟨v, rfl, ho, hk, hf⟩

set_option maxHeartbeats 1000000 in
theorem copy_any (w : World) (F : List Nat) (p : Nat) (s : Tl) (hn : s.n ≤ 1000) (h : TlRep 83 w F p s) :
    Calls Try.prog 29 #[.pointer (some ⟨p, 0, none⟩)] w fun e w' => ∃ F' p', e = .returned (.pointer (some ⟨p', 0, none⟩)) ∧ TlRep 83 w' F' p' s ∧ Keeps [] w w' ∧ ∀ g ∈ F', w.heap.size ≤ g := by
  obtain ⟨A, cap, h⟩ := h
  have c0 : w.cell? ⟨p, 0, none⟩ = some (.int .i64 s.n) := h.b.cell 0
  have c1 : w.cell? ⟨p, 1, none⟩ = some (.slice A s.L.length cap) := h.b.cell 1
  have hm := h.m
  have HB := Lib.hid h.b
  have HO := Lib.hid (own_keep h.o ((Keeps.refl [] w).drew) (by simp))
  clear h
  go_enter Try.func29, Try.ntmps29
  go_wp2_with fail
  go_region_held3 (fun w' => w'.cell? ⟨p, 1, none⟩ = some (.slice A s.L.length cap) ∧ w'.cell? ⟨p, 0, none⟩ = some (.int .i64 s.n))
    (first
      | go_keep
      | (go_split_ands
         exact ⟨((HB.out.drew).keep hk1 (by simp)).cell 1, ((HB.out.drew).keep hk1 (by simp)).cell 0⟩))
    ((first
      | (go_at_call 49; refine (clone_any _ A s.L.length cap _ HO.out (es_one _) (by omega)).mono ?_; rintro e w1 ⟨v, rfl, ho1, hk1, hf1⟩; obtain ⟨A1, cap1, rfl, -, -, -⟩ := own_shape ho1)))
  go_wp2
  go_ret
  have hs : w.heap.size ≤ w1.heap.size := hk1.size
  refine ⟨w1.heap.size :: fp (.slice A1 s.L.length cap1), w1.heap.size, rfl, ⟨A1, cap1, rfl, Blk.new _ _ _, own_keep ho1 ((Keeps.refl [] _).alloc _) (by simp), hm, by decide⟩, ?_, ?_⟩
  · exact (((Keeps.refl [] w).drew).trans hk1 (by simp)).alloc _
  · intro g hg
    rcases List.mem_cons.1 hg with rfl | hg
    · exact hs
    · exact hf1 g hg
end Go.Proofs.Yteognipfnbocpaa.T13
