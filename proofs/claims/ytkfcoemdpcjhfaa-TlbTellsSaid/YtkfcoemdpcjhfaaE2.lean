/- The reference's cache: Drop, DropFrame, Flush. -/
import Derived.Test.YtkfcoemdpcjhfaaE1
import Derived.Test.YtkfcoemdpcjhfaaB1
namespace Go.Proofs.Ytkfcoemdpcjhfaa
open Go.RowKit

/-- What the reference stores: a list in new blocks. -/
theorem fresh1 {T : TypeId} {w w1 : World} {F : List Nat} {p : Nat} {s : Tl} {A : Option Addr} {cap : Nat} {v' : Value} {L' : List En} (g1 : TlAt T w F p s A cap)
    (ho' : w1.ownsRow 0 34 4 v' L'.length (es L')) (hk' : Keeps [] w w1) (hf' : ∀ g ∈ fp v', w.heap.size ≤ g) (hl : L'.length ≤ s.n) :
    ∃ A1 cap1, v' = .slice A1 L'.length cap1 ∧ w1.cell? ⟨p, 1, none⟩ = some (.slice A s.L.length cap) ∧ w1.frozen? ⟨p, 1, none⟩ = false ∧ w.heap.size ≤ w1.heap.size ∧ Next T w (w1.setCell ⟨p, 1, none⟩ v') F p ⟨s.n, L'⟩ := by
  obtain ⟨A1, cap1, rfl, -, -, -⟩ := own_shape ho'
  have hf := g1.f
  have b1 := g1.b.keep hk' (by simp)
  have hoff1 : p ∉ fp (.slice A1 L'.length cap1) := own_blk_off ho' b1 (fun e => g1.t e.symm)
  refine ⟨A1, cap1, rfl, b1.cell 1, b1.frozen 1, hk'.size, p :: fp (.slice A1 L'.length cap1), ⟨A1, cap1, rfl, ?_, ?_, hl, g1.t⟩, ?_, ?_⟩
  · simpa using b1.set_ 1 (.slice A1 L'.length cap1)
  · exact own_far (p := ⟨p, 1, none⟩) ho' hoff1 (.slice A1 L'.length cap1)
  · exact (hk'.mono (G := F) (by simp)).setCell (.inl (by rw [hf]; simp)) _
  · intro g hg
    rcases List.mem_cons.1 hg with rfl | hg
    · exact .inl (by rw [hf]; simp)
    · exact .inr (hf' g hg)
theorem erase_filter {L : List En} {k : Nat} {x y : Int} (h : Nd L) (hf : L.findIdx? (fun e => e.is x y) = some k) : L.filter (fun e => !e.is x y) = L.eraseIdx k := by
  rw [List.findIdx?_eq_some_iff_getElem] at hf
  obtain ⟨hk, h1, h2⟩ := hf
  rw [List.eraseIdx_eq_take_drop_succ]
  have e : L = L.take k ++ L[k] :: L.drop (k + 1) := by rw [← List.drop_eq_getElem_cons hk, List.take_append_drop]
  have hd : Nd (L.take k ++ L[k] :: L.drop (k + 1)) := by rw [← e]; exact h
  have hp := List.pairwise_cons.1 (List.pairwise_append.1 hd).2.1
  have hq : L.filter (fun e => !e.is x y) = (L.take k ++ L[k] :: L.drop (k + 1)).filter (fun e => !e.is x y) := by rw [← e]
  rw [hq, List.filter_append, List.filter_cons, h1]
  simp only [Bool.not_true, Bool.false_eq_true, if_false]
  congr 1
  · rw [List.filter_eq_self]
    intro z hz
    obtain ⟨j, hj, rfl⟩ := List.getElem_of_mem hz
    rw [List.length_take] at hj
    rw [List.getElem_take]
    simpa using h2 j (by omega)
  · rw [List.filter_eq_self]
    intro z hz
    have := hp.1 z hz
    unfold En.is at h1 ⊢
    simp only [Bool.and_eq_true, beq_iff_eq] at h1
    simp only [Bool.not_eq_true', Bool.and_eq_false_iff, beq_eq_false_iff_ne]
    rw [h1.1, h1.2] at this
    by_cases e : z.s = x
    · exact .inr (fun e2 => this ⟨e.symm, e2.symm⟩)
    · exact .inl e
theorem keep_filter {L : List En} {x y : Int} (hf : L.findIdx? (fun e => e.is x y) = none) : L.filter (fun e => !e.is x y) = L := by
  rw [List.findIdx?_eq_none_iff] at hf
  rw [List.filter_eq_self]
  intro z hz
  simp [hf z hz]

set_option maxRecDepth 100000 in
set_option maxHeartbeats 1600000 in
theorem rdrop_any (w : World) (F : List Nat) (p : Nat) (s : Tl) (x y : Int) (hn : s.n ≤ 1000) (hd : Nd s.L) (h : TlRep 46 w F p s) :
    Calls Try.prog 28 #[.pointer (some ⟨p, 0, none⟩), .int .i64 x, .int .i64 y] w fun e w' => e = .returned (.int .i64 ((s.L.length : Int) - (s.drop (fun e => e.is x y)).L.length)) ∧ Next 46 w w' F p (s.drop (fun e => e.is x y)) := by
  have HP := Lib.hid (rplace_any w F p s x y hn h)
  have HR := Lib.hid h
  cases hf : s.L.findIdx? (fun e => e.is x y) with
  | none =>
    rw [fidx_none hf] at HP
    have e1 : s.drop (fun e => e.is x y) = s := by unfold Tl.drop; rw [keep_filter hf]
    have HE := Lib.hid e1
    clear hf e1 h
    go_enter Try.func28, Try.ntmps28
    go_wp2_with fail
    refine HP.out.mono ?_
    rintro e w1 ⟨rfl, k1⟩
    go_wp2_with fail
    go_ret
    rw [HE.out]
    exact ⟨ret_int (by omega), .same (HR.out.keep k1 (by simp)) (k1.mono (by simp))⟩
  | some k =>
    have hkl : k < s.L.length := by rw [List.findIdx?_eq_some_iff_getElem] at hf; exact hf.1
    rw [fidx_some hf] at HP
    have e1 : s.drop (fun e => e.is x y) = ⟨s.n, s.L.eraseIdx k⟩ := by unfold Tl.drop; rw [erase_filter hd hf]
    have e2 : (s.L.length : Int) - (s.L.eraseIdx k).length = 1 := by rw [List.length_eraseIdx_of_lt hkl]; omega
    have HE := Lib.hid (And.intro e1 e2)
    have hle : (s.L.eraseIdx k).length ≤ s.n := by rw [List.length_eraseIdx_of_lt hkl]; have := HR.out.len; omega
    clear hf e1 e2 h
    go_enter Try.func28, Try.ntmps28
    go_wp2_with fail
    refine HP.out.mono ?_
    rintro e w1 ⟨rfl, k1⟩
    have hw := rwithout_any w1 F p s k hkl hn (HR.out.keep k1 (by simp))
    have HW := Lib.hid hw
    clear hw
    go_wp2_with fail
    refine HW.out.mono ?_
    rintro e w2 ⟨v, rfl, o2, k2, f2⟩
    obtain ⟨A, cap, g1⟩ := HR.out
    have kk := fresh1 g1 o2 (k1.trans k2 (by simp)) (fun g hg => Nat.le_trans k1.size (f2 g hg)) hle
    clear g1 o2 k2 f2 HW
    obtain ⟨A1, cap1, rfl, d1, d0, -, hn1⟩ := kk
    have HN := Lib.hid hn1
    clear hn1
    go_wp2_with fail
    go_ret
    rw [HE.out.1]
    exact ⟨ret_int (by simpa using HE.out.2.symm), HN.out⟩

set_option maxRecDepth 100000 in
set_option maxHeartbeats 3200000 in
theorem rdropFrame_any (w : World) (F : List Nat) (p : Nat) (s : Tl) (x : Int) (hn : s.n ≤ 1000) (h : TlRep 46 w F p s) :
    Calls Try.prog 29 #[.pointer (some ⟨p, 0, none⟩), .int .i64 x] w fun e w' => e = .returned (.int .i64 ((s.L.length : Int) - (s.drop (fun e => e.f == x)).L.length)) ∧ Next 46 w w' F p (s.drop (fun e => e.f == x)) := by
  obtain ⟨A, cap, h⟩ := h
  have hm := h.m
  obtain ⟨_, _, hv, -, -, hA⟩ := own_shape h.o
  obtain ⟨rfl, -, rfl⟩ : A = _ ∧ s.L.length = _ ∧ cap = _ := by injection hv with h1 h2 h3; exact ⟨h1, rfl, h3⟩
  clear hv
  have HH := Lib.hid h
  have HI := Lib.hid info34
  clear h
  go_enter Try.func29, Try.ntmps29
  go_wp2
  go_loopw [5, 6] (fun v i wr => ∃ k : Nat, k ≤ s.L.length ∧ i = .int .i64 k ∧ wr.ownsRow 0 34 4 v ((s.L.take k).filter (fun e => !(e.f == x))).length (es ((s.L.take k).filter (fun e => !(e.f == x)))) ∧ (∀ g ∈ fp v, w.heap.size ≤ g) ∧ Keeps [] w wr) (fun _ i _ => s.L.length - (intOf i).toNat)
  case atStart => exact ⟨0, by omega, rfl, World.ownsRow_nil _ _ _ _, by simp, Keeps.refl _ _⟩
  case round =>
    obtain ⟨k, hk, rfl, ov, fv, kp⟩ := hrel
    have c1 : wr.cell? ⟨p, 1, none⟩ = some (.slice A s.L.length cap) := (HH.out.b.keep kp (by simp)).cell 1
    by_cases hlt : k < s.L.length
    · obtain ⟨g, rfl⟩ := hA (by omega)
      have o1 := own_keep HH.out.o kp (by simp)
      have x0 := own_cell o1 (j := k * 4) (u := .int .i64 s.L[k].s) (by rw [show k * 4 = k * 4 + 0 by omega, es_at hlt (by omega)]; rfl)
      have x1 := own_cell o1 (j := k * 4 + 1) (u := .int .i64 s.L[k].p) (by rw [es_at hlt (by omega)]; rfl)
      have x2 := own_cell o1 (j := k * 4 + 2) (u := .int .i64 s.L[k].f) (by rw [es_at hlt (by omega)]; rfl)
      have x3 := own_cell o1 (j := k * 4 + 3) (u := .bool s.L[k].w) (by rw [es_at hlt (by omega)]; rfl)
      have hfs : (s.L.take (k + 1)).filter (fun e => !(e.f == x)) = (s.L.take k).filter (fun e => !(e.f == x)) ++ (if (s.L[k]).f == x then [] else [s.L[k]]) := by
        rw [List.take_succ_eq_append_getElem hlt, List.filter_append, List.filter_cons]
        cases (s.L[k]).f == x <;> simp
      have hfl : ((s.L.take k).filter (fun e => !(e.f == x))).length ≤ k := Nat.le_trans (List.length_filter_le _ _) (List.length_take_le _ _)
      have HF := Lib.hid hfs
      clear o1 hfs
      generalize (s.L.take k).filter (fun e => !(e.f == x)) = M at *
      obtain ⟨Av, cv, rfl, -, -, -⟩ := own_shape ov
      cases e1 : ((s.L[k]).f == x) with
      | true =>
        rw [e1] at HF
        have e2 : ((s.L[k]).f != x) = false := by simp [bne, e1]
        clear e1
        go_wp2_with fail
        go_roundw
        case rel => exact ⟨k + 1, by omega, by go_num, by rw [HF.out]; simpa using ov, fv, kp⟩
        case measure => simp [intOf]; omega
      | false =>
        rw [e1] at HF
        have e2 : ((s.L[k]).f != x) = true := by simp [bne, e1]
        have HO := Lib.hid (fun W (hW : Keeps [] wr W) => own_keep ov hW (by simp))
        clear e1
        go_wp2_with (at_builtin; refine wpList_app _ rfl (.tmp 27) (.tmp 35) _ rfl 34 (.agg #[.int .i64 0, .int .i64 0, .int .i64 0, .bool false]) 4 32 Try.underlying32 HI.out rfl (by omega) (.slice Av M.length cv) _ _ rfl (HO.out _ ((Keeps.refl [] _).alloc _)) _ _ _ _ _ rfl (reads_cells wr #[.int .i64 s.L[k].s, .int .i64 s.L[k].p, .int .i64 s.L[k].f, .bool s.L[k].w] 1 4 34 rfl) (ec_one s.L[k]) (by unfold maxLen; omega) (by omega) ?_)
        intro v6 w6 o6 k6 f6
        have kk := (kp.alloc (.cells #[.int .i64 s.L[k].s, .int .i64 s.L[k].p, .int .i64 s.L[k].f, .bool s.L[k].w] 34)).trans k6 (fun g hg => .inr (fv g hg))
        have hz := kp.size
        clear HO c1 x0 x1 x2 x3
        go_wp2_with fail
        go_roundw
        case rel =>
          refine ⟨k + 1, by omega, by go_num, ?_, fun g hg => ?_, kk⟩
          · rw [HF.out]
            have : (M ++ (if false = true then [] else [s.L[k]])) = M ++ [s.L[k]] := rfl
            rw [this, List.length_append, es_append]
            exact o6
          · rcases f6 g hg with h1 | h1
            · exact fv g h1
            · first | omega | (simp at h1; omega)
        case measure => simp [intOf]; omega
    · obtain rfl : k = s.L.length := by omega
      rw [List.take_length] at ov
      have hfl : (s.L.filter (fun e => !(e.f == x))).length ≤ s.L.length := List.length_filter_le _ _
      have kk := fresh1 HH.out ov kp fv (by omega)
      have HD : Hid (s.drop (fun e => e.f == x) = ⟨s.n, s.L.filter (fun e => !(e.f == x))⟩) := Lib.hid rfl
      clear ov fv
      generalize s.L.filter (fun e => !(e.f == x)) = M at *
      obtain ⟨A1, cap1, rfl, d1, d0, -, hn1⟩ := kk
      have HN := Lib.hid hn1
      clear hn1 hA
      go_wp2_with fail
      go_ret
      rw [HD.out]
      exact ⟨rfl, HN.out⟩

set_option maxRecDepth 100000 in
set_option maxHeartbeats 3200000 in
theorem rflush_any (w : World) (F : List Nat) (p : Nat) (s : Tl) (x : Int) (hn : s.n ≤ 1000) (h : TlRep 46 w F p s) :
    Calls Try.prog 30 #[.pointer (some ⟨p, 0, none⟩), .int .i64 x] w fun e w' => e = .returned (.int .i64 ((s.L.length : Int) - (s.drop (fun e => e.s == x)).L.length)) ∧ Next 46 w w' F p (s.drop (fun e => e.s == x)) := by
  obtain ⟨A, cap, h⟩ := h
  have hm := h.m
  obtain ⟨_, _, hv, -, -, hA⟩ := own_shape h.o
  obtain ⟨rfl, -, rfl⟩ : A = _ ∧ s.L.length = _ ∧ cap = _ := by injection hv with h1 h2 h3; exact ⟨h1, rfl, h3⟩
  clear hv
  have HH := Lib.hid h
  have HI := Lib.hid info34
  clear h
  go_enter Try.func30, Try.ntmps30
  go_wp2
  go_loopw [5, 6] (fun v i wr => ∃ k : Nat, k ≤ s.L.length ∧ i = .int .i64 k ∧ wr.ownsRow 0 34 4 v ((s.L.take k).filter (fun e => !(e.s == x))).length (es ((s.L.take k).filter (fun e => !(e.s == x)))) ∧ (∀ g ∈ fp v, w.heap.size ≤ g) ∧ Keeps [] w wr) (fun _ i _ => s.L.length - (intOf i).toNat)
  case atStart => exact ⟨0, by omega, rfl, World.ownsRow_nil _ _ _ _, by simp, Keeps.refl _ _⟩
  case round =>
    obtain ⟨k, hk, rfl, ov, fv, kp⟩ := hrel
    have c1 : wr.cell? ⟨p, 1, none⟩ = some (.slice A s.L.length cap) := (HH.out.b.keep kp (by simp)).cell 1
    by_cases hlt : k < s.L.length
    · obtain ⟨g, rfl⟩ := hA (by omega)
      have o1 := own_keep HH.out.o kp (by simp)
      have x0 := own_cell o1 (j := k * 4) (u := .int .i64 s.L[k].s) (by rw [show k * 4 = k * 4 + 0 by omega, es_at hlt (by omega)]; rfl)
      have x1 := own_cell o1 (j := k * 4 + 1) (u := .int .i64 s.L[k].p) (by rw [es_at hlt (by omega)]; rfl)
      have x2 := own_cell o1 (j := k * 4 + 2) (u := .int .i64 s.L[k].f) (by rw [es_at hlt (by omega)]; rfl)
      have x3 := own_cell o1 (j := k * 4 + 3) (u := .bool s.L[k].w) (by rw [es_at hlt (by omega)]; rfl)
      have hfs : (s.L.take (k + 1)).filter (fun e => !(e.s == x)) = (s.L.take k).filter (fun e => !(e.s == x)) ++ (if (s.L[k]).s == x then [] else [s.L[k]]) := by
        rw [List.take_succ_eq_append_getElem hlt, List.filter_append, List.filter_cons]
        cases (s.L[k]).s == x <;> simp
      have hfl : ((s.L.take k).filter (fun e => !(e.s == x))).length ≤ k := Nat.le_trans (List.length_filter_le _ _) (List.length_take_le _ _)
      have HF := Lib.hid hfs
      clear o1 hfs
      generalize (s.L.take k).filter (fun e => !(e.s == x)) = M at *
      obtain ⟨Av, cv, rfl, -, -, -⟩ := own_shape ov
      cases e1 : ((s.L[k]).s == x) with
      | true =>
        rw [e1] at HF
        have e2 : ((s.L[k]).s != x) = false := by simp [bne, e1]
        clear e1
        go_wp2_with fail
        go_roundw
        case rel => exact ⟨k + 1, by omega, by go_num, by rw [HF.out]; simpa using ov, fv, kp⟩
        case measure => simp [intOf]; omega
      | false =>
        rw [e1] at HF
        have e2 : ((s.L[k]).s != x) = true := by simp [bne, e1]
        have HO := Lib.hid (fun W (hW : Keeps [] wr W) => own_keep ov hW (by simp))
        clear e1
        go_wp2_with (at_builtin; refine wpList_app _ rfl (.tmp 27) (.tmp 35) _ rfl 34 (.agg #[.int .i64 0, .int .i64 0, .int .i64 0, .bool false]) 4 32 Try.underlying32 HI.out rfl (by omega) (.slice Av M.length cv) _ _ rfl (HO.out _ ((Keeps.refl [] _).alloc _)) _ _ _ _ _ rfl (reads_cells wr #[.int .i64 s.L[k].s, .int .i64 s.L[k].p, .int .i64 s.L[k].f, .bool s.L[k].w] 1 4 34 rfl) (ec_one s.L[k]) (by unfold maxLen; omega) (by omega) ?_)
        intro v6 w6 o6 k6 f6
        have kk := (kp.alloc (.cells #[.int .i64 s.L[k].s, .int .i64 s.L[k].p, .int .i64 s.L[k].f, .bool s.L[k].w] 34)).trans k6 (fun g hg => .inr (fv g hg))
        have hz := kp.size
        clear HO c1 x0 x1 x2 x3
        go_wp2_with fail
        go_roundw
        case rel =>
          refine ⟨k + 1, by omega, by go_num, ?_, fun g hg => ?_, kk⟩
          · rw [HF.out]
            have : (M ++ (if false = true then [] else [s.L[k]])) = M ++ [s.L[k]] := rfl
            rw [this, List.length_append, es_append]
            exact o6
          · rcases f6 g hg with h1 | h1
            · exact fv g h1
            · first | omega | (simp at h1; omega)
        case measure => simp [intOf]; omega
    · obtain rfl : k = s.L.length := by omega
      rw [List.take_length] at ov
      have hfl : (s.L.filter (fun e => !(e.s == x))).length ≤ s.L.length := List.length_filter_le _ _
      have kk := fresh1 HH.out ov kp fv (by omega)
      have HD : Hid (s.drop (fun e => e.s == x) = ⟨s.n, s.L.filter (fun e => !(e.s == x))⟩) := Lib.hid rfl
      clear ov fv
      generalize s.L.filter (fun e => !(e.s == x)) = M at *
      obtain ⟨A1, cap1, rfl, d1, d0, -, hn1⟩ := kk
      have HN := Lib.hid hn1
      clear hn1 hA
      go_wp2_with fail
      go_ret
      rw [HD.out]
      exact ⟨rfl, HN.out⟩
end Go.Proofs.Ytkfcoemdpcjhfaa
