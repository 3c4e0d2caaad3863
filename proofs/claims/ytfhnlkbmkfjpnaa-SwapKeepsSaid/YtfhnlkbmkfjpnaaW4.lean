/- The walks of the swap device's methods, the rest. -/
import Derived.Test.YtfhnlkbmkfjpnaaW3
namespace Go.Proofs.Ytfhnlkbmkfjpnaa
open Go.RowKit

theorem hasB_lt {L : List ByteArray} {i : Int} (h : hasB L i = true) : 0 ≤ i ∧ i.toNat < L.length := by
  unfold hasB at h
  simp at h
  omega
theorem hasB_emp {L : List ByteArray} {i : Int} (h : hasB L i = true) : emp (L.getD i.toNat E0) = false := by
  unfold hasB at h
  generalize L.getD i.toNat E0 = x at *
  simp at h
  exact h.2

theorem get_any (w : World) (F : List Nat) (p : Nat) (s : Sw) (i : Int) (h : SwRep w F p s) (hr : s.ret ≤ 1000000000) :
    Calls Try.prog 14 #[.pointer (some ⟨p, 0, none⟩), .int .i64 i] w fun e w' => e = .returned (.tuple #[.string (s.get i).1, .int .i64 (s.get i).2.1]) ∧ SwRep w' F p (s.get i).2.2 ∧ Keeps F w w' := by
  have hh := has_any w F p s i h
  cases hb : hasB s.L i
  · have e : s.get i = (E0, 4, s) := by unfold Sw.get; rw [hb]; rfl
    have H := Lib.hid e; clear e
    go_enter Try.func14, Try.ntmps14
    go_wp2_with fail
    refine hh.mono ?_
    rintro e w1 ⟨rfl, rfl⟩
    go_wp2
    go_ret2
    rw [H.out]
    exact ⟨rfl, h, Keeps.refl _ _⟩
  · have e : s.get i = (s.L.getD i.toNat E0, 0, ⟨s.L, 0, s.ret + s.due⟩) := by unfold Sw.get; rw [hb]; rfl
    have H := Lib.hid e; clear e
    obtain ⟨hi0, hil⟩ := hasB_lt hb
    obtain ⟨k, rfl⟩ := Int.eq_ofNat_of_zero_le hi0
    simp only [Int.toNat_natCast] at hil
    go_enter Try.func14, Try.ntmps14
    go_wp2_with fail
    refine hh.mono ?_
    rintro e w1 ⟨rfl, rfl⟩
    go_wp2_with fail
    refine (use_any _ F p s h hr).mono ?_
    rintro e w1 ⟨rfl, ⟨A1, cap1, g1⟩, hk1⟩
    have b1 : Blk w1 p 54 #[.slice A1 s.L.length cap1, .int .i64 (cnt s.L), .int .i64 0, .int .i64 (s.ret + s.due)] := g1.b
    have o1 : w1.ownsRow 0 9 1 (.slice A1 s.L.length cap1) s.L.length (s.L.map .string) := g1.o
    obtain ⟨_, _, hv, hcap, hmax, hA⟩ := own_shape o1
    obtain ⟨rfl, -, rfl⟩ : A1 = _ ∧ s.L.length = _ ∧ cap1 = _ := by injection hv with h1 h2 h3; exact ⟨h1, rfl, h3⟩
    clear hv
    obtain ⟨g, rfl⟩ := hA (by omega)
    have c0 : w1.cell? ⟨p, 0, none⟩ = some (.slice (some ⟨g, 0, none⟩) s.L.length cap1) := b1.cell 0
    have cg : w1.cell? ⟨g, k, none⟩ = some (.string s.L[k]) := own_cell o1 (by simp [hil])
    have hm := g1.m
    simp only [] at hm
    go_wp2
    go_ret2
    rw [H.out]
    refine ⟨?_, ⟨_, _, g1⟩, hk1⟩
    simp [List.getD, hil]

theorem free_any (w : World) (F : List Nat) (p : Nat) (s : Sw) (i : Int) (h : SwRep w F p s) :
    Calls Try.prog 24 #[.pointer (some ⟨p, 0, none⟩), .int .i64 i] w fun e w' => e = .returned (.tuple #[]) ∧ SwRep w' F p (s.free i) ∧ Keeps F w w' := by
  have hh := has_any w F p s i h
  cases hb : hasB s.L i
  · have e : s.free i = s := by unfold Sw.free; rw [hb]; rfl
    have H := Lib.hid e; clear e
    go_enter Try.func24, Try.ntmps24
    go_wp2_with fail
    refine hh.mono ?_
    rintro e w1 ⟨rfl, rfl⟩
    go_wp2
    go_end0
    rw [H.out]
    exact ⟨rfl, h, Keeps.refl _ _⟩
  · have e : s.free i = ⟨s.L.set i.toNat E0, s.due, s.ret⟩ := by unfold Sw.free; rw [hb]; rfl
    have H := Lib.hid e; clear e
    obtain ⟨hi0, hil⟩ := hasB_lt hb
    have hemp := hasB_emp hb
    obtain ⟨k, rfl⟩ := Int.eq_ofNat_of_zero_le hi0
    simp only [Int.toNat_natCast] at hil hemp H
    have hcnt : (cnt (s.L.set k E0) : Int) = (cnt s.L : Int) - 1 := by
      have := cnt_set hil E0
      have e1 : s.L.getD k E0 = s.L[k] := by simp [List.getD, hil]
      rw [e1] at hemp
      rw [hemp, emp_E0] at this
      simp at this
      omega
    have HC := Lib.hid hcnt; clear hcnt
    obtain ⟨A1, cap1, g1⟩ := h
    have b1 := g1.b
    have o1 := g1.o
    obtain ⟨_, _, hv, hcap, hmax, hA⟩ := own_shape o1
    obtain ⟨rfl, -, rfl⟩ : A1 = _ ∧ s.L.length = _ ∧ cap1 = _ := by injection hv with h1 h2 h3; exact ⟨h1, rfl, h3⟩
    clear hv
    obtain ⟨g, rfl⟩ := hA (by omega)
    have hoff : p ∉ fp (.slice (some ⟨g, 0, none⟩) s.L.length cap1) := g1.off
    have hpg : p ≠ g := by simpa using hoff
    have c0 : w.cell? ⟨p, 0, none⟩ = some (.slice (some ⟨g, 0, none⟩) s.L.length cap1) := b1.cell 0
    have c1 : w.cell? ⟨p, 1, none⟩ = some (.int .i64 (cnt s.L)) := b1.cell 1
    have f1 := b1.frozen 1
    have cg : w.cell? ⟨g, k, none⟩ = some (.string s.L[k]) := own_cell o1 (by simp [hil])
    have fg := own_free o1 k
    have hm := g1.m
    have hcl := cnt_le s.L
    go_enter Try.func24, Try.ntmps24
    go_wp2_with fail
    refine hh.mono ?_
    rintro e w1 ⟨rfl, rfl⟩
    go_wp2
    go_end0
    rw [H.out, show ({ data := #[] } : ByteArray) = E0 from rfl]
    have hF := g1.f
    refine ⟨rfl, ⟨some ⟨g, 0, none⟩, cap1, by simpa using hF, ?_, ?_, by simpa using g1.m, g1.d0, g1.d1, g1.r0⟩, ?_⟩
    · have hb := (b1.far (p := ⟨g, k, none⟩) hpg (.string E0)).set_ 1 (.int .i64 ((cnt s.L : Int) - 1))
      simpa [HC.out] using hb
    · have ho := own_far (p := ⟨p, 1, none⟩) (own_set o1 k (.string E0)) hoff (.int .i64 ((cnt s.L : Int) - 1))
      simpa [map_set] using ho
    · rw [hF]
      exact (Keeps.refl _ w).setCell (.inl (by simp)) _ |>.setCell (.inl (by simp)) _

theorem used_any (w : World) (F : List Nat) (p : Nat) (s : Sw) (h : SwRep w F p s) :
    Calls Try.prog 11 #[.pointer (some ⟨p, 0, none⟩)] w fun e w' => e = .returned (.int .i64 (cnt s.L)) ∧ w = w' := by
  obtain ⟨A, cap, h⟩ := h
  have c1 : w.cell? ⟨p, 1, none⟩ = some (.int .i64 (cnt s.L)) := h.b.cell 1
  go_enter Try.func11, Try.ntmps11
  go_wp2
  go_ret
  exact ⟨rfl, rfl⟩

theorem retries_any (w : World) (F : List Nat) (p : Nat) (s : Sw) (h : SwRep w F p s) :
    Calls Try.prog 15 #[.pointer (some ⟨p, 0, none⟩)] w fun e w' => e = .returned (.int .i64 s.ret) ∧ w = w' := by
  obtain ⟨A, cap, h⟩ := h
  have c1 : w.cell? ⟨p, 3, none⟩ = some (.int .i64 s.ret) := h.b.cell 3
  go_enter Try.func15, Try.ntmps15
  go_wp2
  go_ret
  exact ⟨rfl, rfl⟩

theorem fail_any (w : World) (F : List Nat) (p : Nat) (s : Sw) (n : Int) (h : SwRep w F p s) :
    Calls Try.prog 25 #[.pointer (some ⟨p, 0, none⟩), .int .i64 n] w fun e w' => e = .returned (.tuple #[]) ∧ SwRep w' F p (s.fail n) ∧ Keeps F w w' := by
  obtain ⟨A, cap, h⟩ := h
  have c2 : w.cell? ⟨p, 2, none⟩ = some (.int .i64 s.due) := h.b.cell 2
  have f2 := h.b.frozen 2
  go_enter Try.func25, Try.ntmps25
  have hf := h.f
  have key : ∀ m : Int, clampF n = m → SwRep (w.setCell ⟨p, 2, none⟩ (.int .i64 m)) F p (s.fail n) ∧ Keeps F w (w.setCell ⟨p, 2, none⟩ (.int .i64 m)) := by
    intro m e
    have hr := clampF_range n
    refine ⟨⟨A, cap, hf, ?_, own_far h.o h.off _, h.m, hr.1, hr.2, h.r0⟩, (Keeps.refl F w).setCell (.inl (by rw [hf]; simp)) _⟩
    have := h.b.set_ 2 (.int .i64 m)
    rw [← e] at this ⊢
    exact this
  have K := Lib.hid key; clear key hf
  go_wp2
  all_goals
    go_end0
    exact ⟨rfl, K.out _ (by unfold clampF; omega)⟩

theorem lst_len' (L : List ByteArray) : (lst L L.length).length = cnt L := by rw [lst_cnt L _ (Nat.le_refl _), List.take_length]

set_option maxHeartbeats 400000 in
theorem list_any (w : World) (F : List Nat) (p : Nat) (s : Sw) (h : SwRep w F p s) :
    Calls Try.prog 17 #[.pointer (some ⟨p, 0, none⟩)] w fun e w' => ∃ v, e = .returned v ∧ w'.ownsRow 0 3 1 v (cnt s.L) ((lst s.L s.L.length).map (.int .i64)) ∧ Keeps [] w w' ∧ ∀ g ∈ fp v, w.heap.size ≤ g := by
  have hrep := h
  obtain ⟨A, cap, h⟩ := h
  have c0 : w.cell? ⟨p, 0, none⟩ = some (.slice A s.L.length cap) := h.b.cell 0
  have hm := h.m
  have ho := h.o
  have hpl := h.b.lt
  obtain ⟨_, _, hv, hcap, hmax, hA⟩ := own_shape ho
  obtain ⟨rfl, -, rfl⟩ : A = _ ∧ s.L.length = _ ∧ cap = _ := by injection hv with h1 h2 h3; exact ⟨h1, rfl, h3⟩
  clear hv h
  go_enter Try.func17, Try.ntmps17
  go_wp2
  go_loopw [3, 11] (fun o i wr => ∃ k : Nat, k ≤ s.L.length ∧ i = .int .i64 k ∧ wr.ownsRow 0 3 1 o (lst s.L k).length ((lst s.L k).map (.int .i64)) ∧ Keeps [] w wr ∧ ∀ g ∈ fp o, w.heap.size ≤ g) (fun _ i _ => s.L.length - (intOf i).toNat)
  case atStart => exact ⟨0, by omega, rfl, World.ownsRow_nil _ _ _ _, Keeps.refl _ _, by simp⟩
  case round =>
    obtain ⟨k, hk, rfl, hown, hkp, hfr⟩ := hrel
    obtain ⟨A2, cap2, rfl, _, _, hA2⟩ := own_shape hown
    have hll := lst_len s.L k
    by_cases hlt : k < s.L.length
    · obtain ⟨g, rfl⟩ := hA (by omega)
      have cg0 : w.cell? ⟨g, k, none⟩ = some (.string s.L[k]) := own_cell ho (by simp [hlt])
      have hgl : g < w.heap.size := own_lt ho (by simp)
      have cg : wr.cell? ⟨g, k, none⟩ = some (.string s.L[k]) := (hkp.cell (p := ⟨g, k, none⟩) hgl (by simp)).trans cg0
      have hs := hkp.size
      have hL : lst s.L (k + 1) = if emp s.L[k] then lst s.L k else lst s.L k ++ [(k : Int)] := by
        show (if emp (s.L.getD k E0) then _ else _) = _
        simp [List.getD, hlt]
      have HL := Lib.hid hL; clear hL
      clear cg0 c0
      cases he : s.L[k].toList.isEmpty
      · go_wp2_with (at_builtin; refine wpList_app _ rfl (.tmp 18) (.tmp 20) _ rfl 3 (.int .i64 0) 1 8 Try.underlying42 (by kernel_rfl) rfl (by omega) (.slice A2 (lst s.L k).length cap2) _ _ rfl (own_keep hown ((Keeps.refl [] _).alloc _) (by simp)) _ _ _ _ [.int .i64 k] rfl (reads_one wr (.int .i64 k) 3) (by simp [Value.oneCell']) (by unfold maxLen; omega) (by omega) ?_)
        intro v' w' ho' hk' hf'
        have hk2 : Keeps [] w w' := (hkp.alloc _).trans hk' (fun g hg => .inr (hfr g hg))
        have he2 : emp s.L[k] = false := he
        have hn : lst s.L (k + 1) = lst s.L k ++ [(k : Int)] := by rw [HL.out, he2]; rfl
        have ho2 : w'.ownsRow 0 3 1 v' (lst s.L (k + 1)).length ((lst s.L (k + 1)).map (.int .i64)) := by rw [hn]; simpa using ho'
        have hf2 : ∀ g ∈ fp v', w.heap.size ≤ g := by
          intro g hg
          rcases hf' g hg with h1 | h1
          · exact hfr g h1
          · omega
        clear ho' hk' hf' hn he2 hown hkp hfr
        go_wp2
        go_roundw
        case rel => exact ⟨k + 1, by omega, by go_num, ho2, hk2, hf2⟩
        case measure => simp [intOf]; omega
      · go_wp2
        go_roundw
        case rel => 
          have he2 : emp s.L[k] = true := he
          have hn : lst s.L (k + 1) = lst s.L k := by rw [HL.out, he2]; rfl
          exact ⟨k + 1, by omega, by go_num, by rw [hn]; exact hown, hkp, hfr⟩
        case measure => simp [intOf]; omega
    · obtain rfl : k = s.L.length := by omega
      go_wp2
      go_ret
      rw [lst_len'] at hown
      exact ⟨.slice A2 (cnt s.L) cap2, by simp [lst_len'], by simpa [lst_len'] using hown, hkp, by simpa [lst_len'] using hfr⟩

/-- slices.Clone over strings. -/
theorem clone_any (w : World) (A : Option Addr) (n cap : Nat) (xs : List Value) (ho : w.ownsRow 0 9 1 (.slice A n cap) n xs) (h1 : ∀ u ∈ xs, u.oneCell' = true) (hn : n ≤ 1000000) :
    Calls Try.prog 29 #[.slice A n cap] w fun e w' => ∃ v, e = .returned v ∧ w'.ownsRow 0 9 1 v n xs ∧ Keeps [] w w' ∧ ∀ g ∈ fp v, w.heap.size ≤ g := by
  rcases A with _ | a
  · have hx : n = 0 ∧ cap = 0 := by
      rcases ho.2 with ⟨h, h0⟩ | ⟨g, c, cur, h, _⟩
      · injection h with _ _ h2; exact ⟨h0, h2⟩
      · injection h with h; cases h
    obtain ⟨rfl, rfl⟩ := hx
    have he := fun W => Lib.run_eql_slice_nil (P := Try.prog) W 26 9 none 0 0 0 0 Try.underlying26
    go_enter Try.func29, Try.ntmps29
    go_wp2
    go_ret
    exact ⟨_, rfl, ho, Keeps.refl _ _, by simp⟩
  · have he := fun W => Lib.run_eql_slice_nil (P := Try.prog) W 26 9 (some a) n cap 0 0 Try.underlying26
    go_enter Try.func29, Try.ntmps29
    go_wp2_with (at_builtin; refine wpList_app _ rfl (.tmp 5) (.tmp 6) _ rfl 9 (.string E0) 1 16 Try.underlying26 (by kernel_rfl) rfl (by omega) (.slice (some ⟨w.heap.size, 0, none⟩) 0 0) 0 [] rfl (own_of_blk (Blk.new w 9 #[]) (by omega) (by omega) rfl rfl) _ _ _ _ xs rfl (reads_own (own_keep ho ((Keeps.refl [] _).alloc _) (by simp))) h1 (by unfold maxLen; omega) (by omega) ?_)
    intro v' w' ho' hk' hf'
    go_wp2
    go_ret
    have hk1 : Keeps [] w (w.alloc (.cells #[] 9)) := (Keeps.refl _ _).alloc _
    refine ⟨v', rfl, by simpa using ho', hk1.trans hk' (by simp), fun g hg => ?_⟩
    rcases hf' g hg with h2 | h2
    · have : g = w.heap.size := by simpa using h2
      omega
    · omega

theorem new_any (w : World) (n : Int) :
    Calls Try.prog 8 #[.int .i64 n] w fun e w' => ∃ F p, e = .returned (.pointer (some ⟨p, 0, none⟩)) ∧ SwRep w' F p ⟨List.replicate (max 0 (min n 4096)).toNat E0, 0, 0⟩ ∧ Keeps [] w w' ∧ ∀ g ∈ F, w.heap.size ≤ g := by
  obtain ⟨i0, hi, hz0, hz1, hz2⟩ := info_parts (P := Try.prog) (e := 9) (z := .string E0) (size := 1) (bytes := 16) (by kernel_rfl)
  obtain ⟨m, hm, hmm⟩ : ∃ m : Nat, max 0 (min n 4096) = (m : Int) ∧ m ≤ 4096 := ⟨(max 0 (min n 4096)).toNat, by omega, by omega⟩
  rw [hm]
  have HM := Lib.hid hm; clear hm
  go_enter Try.func8, Try.ntmps8
  go_wp2_with (at_make; refine wpList_make_full _ rfl (.tmp 5) (.tmp 5) _ rfl 0 9 i0 (.string E0) 1 Try.underlying26 hi hz0 hz1 .i64 .i64 _ _ m rfl rfl (by have := HM.out; omega) (by have := HM.out; omega) (by rw [hz2]; omega) (by unfold maxLen; omega) (Nat.zero_le _) ?_)
  all_goals
    intro w' ho hg
    have hr : (madeCells #[Value.string E0] m).toList = (List.replicate m E0).map Value.string := by
      rw [List.map_replicate]
      exact toList_madeCells_one _ _
    rw [hr] at ho
    have hk : Keeps [] w w' := (Keeps.refl _ _).grown hg (by simp)
    have hs : w.heap.size < w'.heap.size := own_lt ho (by simp)
    clear hg hr
    go_wp2
    go_ret
    have hc : cnt (List.replicate m E0) = 0 := by
      unfold cnt
      rw [List.countP_replicate, emp_E0]; simp
    refine ⟨[w'.heap.size, w.heap.size], w'.heap.size, rfl, ⟨some ⟨w.heap.size, 0, none⟩, m, ?_, ?_, ?_, by simpa using hmm, by simp, by simp, by simp⟩, hk.alloc _, ?_⟩
    · simp
    · have := Blk.new w' 54 #[.slice (some ⟨w.heap.size, 0, none⟩) m m, .int .i64 0, .int .i64 0, .int .i64 0]
      simpa [hc] using this
    · have := own_keep ho ((Keeps.refl [] w').alloc (.cells #[.slice (some ⟨w.heap.size, 0, none⟩) m m, .int .i64 0, .int .i64 0, .int .i64 0] 54)) (by simp)
      simpa using this
    · intro g hg
      simp at hg
      omega

theorem copy_any (w : World) (F : List Nat) (p : Nat) (s : Sw) (h : SwRep w F p s) :
    Calls Try.prog 19 #[.pointer (some ⟨p, 0, none⟩)] w fun e w' => ∃ F' p', e = .returned (.pointer (some ⟨p', 0, none⟩)) ∧ SwRep w' F' p' s ∧ Keeps [] w w' ∧ ∀ g ∈ F', w.heap.size ≤ g := by
  obtain ⟨A, cap, h⟩ := h
  have c0 : w.cell? ⟨p, 0, none⟩ = some (.slice A s.L.length cap) := h.b.cell 0
  have c1 : w.cell? ⟨p, 1, none⟩ = some (.int .i64 (cnt s.L)) := h.b.cell 1
  have c2 : w.cell? ⟨p, 2, none⟩ = some (.int .i64 s.due) := h.b.cell 2
  have c3 : w.cell? ⟨p, 3, none⟩ = some (.int .i64 s.ret) := h.b.cell 3
  have hl := h.b.lt
  have hm := h.m
  go_enter Try.func19, Try.ntmps19
  go_wp2_with fail
  refine (clone_any _ A s.L.length cap _ (own_keep h.o ((Keeps.refl [] _).alloc _) (by simp)) (by simp [Value.oneCell']) (by omega)).mono ?_
  rintro e w1 ⟨v, rfl, ho, hk, hf⟩
  obtain ⟨A1, cap1, rfl, -, -, -⟩ := own_shape ho
  have b0 := (Blk.new w 54 #[.slice A s.L.length cap, .int .i64 (cnt s.L), .int .i64 s.due, .int .i64 s.ret])
  have b1 := b0.keep hk (by simp)
  have d0 : w1.cell? ⟨w.heap.size, 0, none⟩ = some (.slice A s.L.length cap) := b1.cell 0
  have fz := b1.frozen 0
  have hoff : w.heap.size ∉ fp (.slice A1 s.L.length cap1) := fun hx => by
    have := hf _ hx
    have h2 : (w.alloc (.cells #[.slice A s.L.length cap, .int .i64 (cnt s.L), .int .i64 s.due, .int .i64 s.ret] 54)).heap.size = w.heap.size + 1 := by simp
    omega
  clear c0 c1 c2 c3
  go_wp2
  go_ret
  refine ⟨w.heap.size :: fp (.slice A1 s.L.length cap1), w.heap.size, rfl, ⟨A1, cap1, rfl, b1.set_ 0 _, own_far ho hoff _, h.m, h.d0, h.d1, h.r0⟩, ?_, ?_⟩
  · exact (((Keeps.refl [] w).alloc _).trans hk (by simp)).setCell (.inr (Nat.le_refl _)) _
  · intro g hg
    rcases List.mem_cons.1 hg with rfl | hg
    · exact Nat.le_refl _
    · have := hf g hg
      have h2 : (w.alloc (.cells #[.slice A s.L.length cap, .int .i64 (cnt s.L), .int .i64 s.due, .int .i64 s.ret] 54)).heap.size = w.heap.size + 1 := by simp
      omega

end Go.Proofs.Ytfhnlkbmkfjpnaa
