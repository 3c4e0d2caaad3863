/- The reference's Double and Copy. -/
import Derived.Test.YtipmhhhhfnpdgaaR3
namespace Go.Proofs.Ytipmhhhhfnpdgaa
open Go.RowKit

theorem reads_blk {w : World} {g B : Nat} {f : Int} {b : ByteArray} (h : Blk w g 31 #[.int .i64 f, .string b]) (hB : g < B) : Reads w B 2 (some ⟨g, 0, none⟩) 1 (pc [(f, b)]) :=
  ⟨rfl, fun _ => ⟨_, rfl, hB, fun j u hu => by rw [add_of_plain, h.cell]; simpa [pc] using hu⟩⟩

set_option maxRecDepth 100000 in
set_option maxHeartbeats 4000000 in
theorem rdouble_any (w : World) (F : List Nat) (p : Nat) (s : Lk) (i : Int) (h : LkRep 51 w F p s) :
    Calls Try.prog 31 #[.pointer (some ⟨p, 0, none⟩), .int .i64 i] w fun e w' => e = .returned (.int .i64 (s.double i).1) ∧ Next 51 w w' F p (s.double i).2 := by
  have hh := rhas_any w F p s i h
  cases hb : hasI s.L i
  · have e : s.double i = (4, s) := by unfold Lk.double; rw [hb]; rfl
    have H := Lib.hid e; clear e
    go_enter Try.func31, Try.ntmps31
    go_wp2_with fail
    refine hh.mono ?_
    rintro e w1 ⟨rfl, rfl⟩
    go_wp2
    go_ret
    rw [H.out]
    exact ⟨rfl, .same h (Keeps.refl _ _)⟩
  obtain ⟨k, rfl, hkl⟩ := hasI_lt hb
  have h0 := h
  obtain ⟨A, cap, g1⟩ := h
  obtain ⟨_, _, hv, hcap, hmax, hA⟩ := own_shape g1.o
  obtain ⟨rfl, -, rfl⟩ : A = _ ∧ s.L.length = _ ∧ cap = _ := by injection hv with h1 h2 h3; exact ⟨h1, rfl, h3⟩
  clear hv
  obtain ⟨g, rfl⟩ := hA (by omega)
  have c0 : w.cell? ⟨p, 0, none⟩ = some (.slice (some ⟨g, 0, none⟩) s.L.length cap) := g1.b.cell 0
  have hm := g1.m
  by_cases g2 : 500 ≤ s.L.length
  · have e : s.double k = (6, s) := by unfold Lk.double; rw [hb]; simp [g2]
    have H := Lib.hid e; clear e
    go_enter Try.func31, Try.ntmps31
    go_wp2_with fail
    refine hh.mono ?_
    rintro e w1 ⟨rfl, rfl⟩
    go_wp2
    go_ret
    rw [H.out]
    exact ⟨rfl, .same h0 (Keeps.refl _ _)⟩
  have e : s.double k = (0, ⟨s.L ++ [s.L[k]], s.cut⟩) := by unfold Lk.double; rw [hb]; simp [g2, List.getD, hkl]
  have H := Lib.hid e; clear e
  have q0 : w.cell? ⟨g, k * 2, none⟩ = some (.int .i64 s.L[k].1) := own_cell g1.o (pc_at0 _ _ hkl)
  have q1 : w.cell? ⟨g, k * 2 + 1, none⟩ = some (.string s.L[k].2) := own_cell g1.o (pc_at1 _ _ hkl)
  have hpl := g1.b.lt
  have hgl : g < w.heap.size := own_lt g1.o (by simp)
  have hi0 : (0 : Int) ≤ (k : Int) := by omega
  have hi1 : (k : Int) < (s.L.length : Int) := by omega
  have HI := Lib.hid info31
  have H1 := Lib.hid (pc_one [s.L[k]])
  have H2 := Lib.hid (pc_one s.L)
  have h63 : 0 + s.L.length ≤ maxLen := by unfold maxLen; omega
  have h64 : 0 + s.L.length + 1 ≤ maxLen := by unfold maxLen; omega
  have hk1 : Keeps [] w (w.alloc (.cells #[] 31)).drew := ((Keeps.refl _ _).alloc _).drew
  have hk2 : Keeps [] w ((w.alloc (.cells #[] 31)).alloc (.cells #[.int .i64 s.L[k].1, .string s.L[k].2] 31)).drew := (((Keeps.refl _ _).alloc _).alloc _).drew
  have hE := own_of_blk (n := 0) (size := 2) (xs := []) (cap := 0) (Blk.new w 31 #[]) (by omega) (by omega) rfl rfl
  have E1 : Hid ((w.alloc (.cells #[] 31)).drew.ownsRow 0 31 2 (.slice (some ⟨w.heap.size, 0, none⟩) 0 0) 0 []) := own_drew hE
  have E2 : Hid (((w.alloc (.cells #[] 31)).alloc (.cells #[.int .i64 s.L[k].1, .string s.L[k].2] 31)).drew.ownsRow 0 31 2 (.slice (some ⟨w.heap.size, 0, none⟩) 0 0) 0 []) := own_drew (own_keep hE ((Keeps.refl [] _).alloc _) (by simp))
  have R1 := Lib.hid (reads_own (own_keep g1.o hk1 (by simp)))
  have R2 := Lib.hid (reads_own (own_keep g1.o hk2 (by simp)))
  have B2 : Hid (Blk ((w.alloc (.cells #[] 31)).alloc (.cells #[.int .i64 s.L[k].1, .string s.L[k].2] 31)).drew (w.heap.size + 1) 31 #[.int .i64 s.L[k].1, .string s.L[k].2]) := by
    have := Blk.new (w.alloc (.cells #[] 31)) 31 #[.int .i64 s.L[k].1, .string s.L[k].2]
    exact (by simpa using this.drew : Blk _ _ _ _)
  have hk3 : Keeps [] w ((w.alloc (.cells #[.int .i64 s.L[k].1, .string s.L[k].2] 31)).alloc (.cells #[] 31)).drew := (((Keeps.refl _ _).alloc _).alloc _).drew
  have hE3 := own_of_blk (n := 0) (size := 2) (xs := []) (cap := 0) (Blk.new (w.alloc (.cells #[.int .i64 s.L[k].1, .string s.L[k].2] 31)) 31 #[]) (by omega) (by omega) rfl rfl
  have E3 : Hid (((w.alloc (.cells #[.int .i64 s.L[k].1, .string s.L[k].2] 31)).alloc (.cells #[] 31)).drew.ownsRow 0 31 2 (.slice (some ⟨w.heap.size + 1, 0, none⟩) 0 0) 0 []) := (by simpa using own_drew hE3 : World.ownsRow _ _ _ _ _ _ _)
  have R3 := Lib.hid (reads_own (own_keep g1.o hk3 (by simp)))
  have B3 : Hid (Blk ((w.alloc (.cells #[.int .i64 s.L[k].1, .string s.L[k].2] 31)).alloc (.cells #[] 31)).drew w.heap.size 31 #[.int .i64 s.L[k].1, .string s.L[k].2]) := ((Blk.new w 31 #[.int .i64 s.L[k].1, .string s.L[k].2]).alloc _).drew
  have K3 := Lib.hid hk3
  have K1 := Lib.hid hk1
  have K2 := Lib.hid hk2
  have hrw : ∀ (v : Value) (W : World), W.ownsRow 0 31 2 v (0 + s.L.length + 1) (([] ++ pc s.L) ++ pc [s.L[k]]) → W.ownsRow 0 31 2 v (s.L ++ [s.L[k]]).length (pc (s.L ++ [s.L[k]])) := by
    intro v W h
    simpa [pc_append] using h
  have HW := Lib.hid hrw
  have hl : (s.L ++ [s.L[k]]).length ≤ 500 := by simp; omega
  have HL := Lib.hid hl
  have G1 := Lib.hid g1
  clear hk1 hk2 hk3 hE hE3 g1 h0 hrw hl
  go_enter Try.func31, Try.ntmps31
  go_wp2_with fail
  refine hh.mono ?_
  rintro e w1 ⟨rfl, rfl⟩
  clear hh
  go_wp2_with fail
  go_region_law (first
    | (refine step_app (by rfl) (.tmp 21) (.tmp 29) 27 (by rfl) 31 (.agg #[.int .i64 0, .string E0]) 2 24 Try.underlying27 HI.out rfl (by omega) v1 (0 + s.L.length) ([] ++ pc s.L) ?_ (own_keep ho1 ((Keeps.refl [] _).alloc _) (by simp)) (w1.heap.size + 1) (some ⟨w1.heap.size, 0, none⟩) 1 1 (pc [s.L[k]]) ?_ (reads_pk w1 s.L[k].1 s.L[k].2) H1.out h64 (by omega) (fun v2 w2 ho2 hk2 hf2 => ?_); (focus (first | (simp [Act.eval]; done) | (simp [Act.eval, Act.put]; done))); (focus (first | (simp [Act.eval]; done) | (simp [Act.eval, Act.put]; done))); have kk := fresh_store (L' := s.L ++ [s.L[k]]) G1.out (HW.out _ _ ho2) ((kk1.alloc _).trans hk2 (fun g hg => .inr (ff1 g hg))) (fun g hg => (hf2 g hg).elim (ff1 g) (fun h => Nat.le_trans (kk1.alloc _).size h)) HL.out; obtain ⟨A3, cap3, rfl, d0, d1, hsz, hn⟩ := kk; have HN := Lib.hid hn; clear hn)
    | (refine step_app (by rfl) (.tmp 21) (.tmp 29) 27 (by rfl) 31 (.agg #[.int .i64 0, .string E0]) 2 24 Try.underlying27 HI.out rfl (by omega) v1 (0 + s.L.length) ([] ++ pc s.L) ?_ ho1 _ (some ⟨w.heap.size + 1, 0, none⟩) 1 1 (pc [s.L[k]]) ?_ rr1 H1.out h64 (by omega) (fun v2 w2 ho2 hk2 hf2 => ?_); (focus (first | (simp [Act.eval]; done) | (simp [Act.eval, Act.put]; done))); (focus (first | (simp [Act.eval]; done) | (simp [Act.eval, Act.put]; done))); have kk := fresh_store (L' := s.L ++ [s.L[k]]) G1.out (HW.out _ _ ho2) (kk1.trans hk2 (fun g hg => .inr (ff1 g hg))) (fun g hg => (hf2 g hg).elim (ff1 g) (fun h => Nat.le_trans kk1.size h)) HL.out; obtain ⟨A3, cap3, rfl, d0, d1, hsz, hn⟩ := kk; have HN := Lib.hid hn; clear hn)
    | (refine step_app (by rfl) (.tmp 21) (.tmp 29) 27 (by rfl) 31 (.agg #[.int .i64 0, .string E0]) 2 24 Try.underlying27 HI.out rfl (by omega) v1 (0 + s.L.length) ([] ++ pc s.L) ?_ ho1 _ (some ⟨w.heap.size, 0, none⟩) 1 1 (pc [s.L[k]]) ?_ rr3 H1.out h64 (by omega) (fun v2 w2 ho2 hk2 hf2 => ?_); (focus (first | (simp [Act.eval]; done) | (simp [Act.eval, Act.put]; done))); (focus (first | (simp [Act.eval]; done) | (simp [Act.eval, Act.put]; done))); have kk := fresh_store (L' := s.L ++ [s.L[k]]) G1.out (HW.out _ _ ho2) (kk1.trans hk2 (fun g hg => .inr (ff1 g hg))) (fun g hg => (hf2 g hg).elim (ff1 g) (fun h => Nat.le_trans kk1.size h)) HL.out; obtain ⟨A3, cap3, rfl, d0, d1, hsz, hn⟩ := kk; have HN := Lib.hid hn; clear hn)
    | (refine step_app (by rfl) (.tmp 16) (.tmp 20) 27 (by rfl) 31 (.agg #[.int .i64 0, .string E0]) 2 24 Try.underlying27 HI.out rfl (by omega) (.slice (some ⟨w.heap.size, 0, none⟩) 0 0) 0 [] ?_ E1.out _ (some ⟨g, 0, none⟩) s.L.length cap (pc s.L) ?_ R1.out H2.out h63 (by omega) (fun v1 w1 ho1 hk1 hf1 => ?_); (focus (first | (simp [Act.eval]; done) | (simp [Act.eval, Act.put]; done))); (focus (first | (simp [Act.eval]; done) | (simp [Act.eval, Act.put]; done))); have kk1 := K1.out.trans hk1 (by simp); have cc1 := (G1.out.b.keep kk1 (by simp)).cell 0; have ce0 := own_cell (own_keep G1.out.o kk1 (by simp)) (pc_at0 _ _ hkl); have ce1 := own_cell (own_keep G1.out.o kk1 (by simp)) (pc_at1 _ _ hkl); have ff1 : ∀ g ∈ fp v1, w.heap.size ≤ g := (fun g hg => (hf1 g hg).elim (fun h => Nat.le_of_eq (List.mem_singleton.1 h).symm) (fun h => Nat.le_trans K1.out.size h)); have ss1 := kk1.size)
    | (refine step_app (by rfl) (.tmp 16) (.tmp 20) 27 (by rfl) 31 (.agg #[.int .i64 0, .string E0]) 2 24 Try.underlying27 HI.out rfl (by omega) (.slice (some ⟨w.heap.size, 0, none⟩) 0 0) 0 [] ?_ E2.out _ (some ⟨g, 0, none⟩) s.L.length cap (pc s.L) ?_ R2.out H2.out h63 (by omega) (fun v1 w1 ho1 hk1 hf1 => ?_); (focus (first | (simp [Act.eval]; done) | (simp [Act.eval, Act.put]; done))); (focus (first | (simp [Act.eval]; done) | (simp [Act.eval, Act.put]; done))); have kk1 := K2.out.trans hk1 (by simp); have cc1 := (G1.out.b.keep kk1 (by simp)).cell 0; have ff1 : ∀ g ∈ fp v1, w.heap.size ≤ g := (fun g hg => (hf1 g hg).elim (fun h => Nat.le_of_eq (List.mem_singleton.1 h).symm) (fun h => Nat.le_trans K2.out.size h)); have rr1 : Reads w1 (w.heap.size + 2) 2 (some ⟨w.heap.size + 1, 0, none⟩) 1 (pc [s.L[k]]) := reads_blk (B2.out.keep hk1 (by simp)) (by omega))
    | (refine step_app (by rfl) (.tmp 16) (.tmp 20) 27 (by rfl) 31 (.agg #[.int .i64 0, .string E0]) 2 24 Try.underlying27 HI.out rfl (by omega) (.slice (some ⟨w.heap.size + 1, 0, none⟩) 0 0) 0 [] ?_ E3.out _ (some ⟨g, 0, none⟩) s.L.length cap (pc s.L) ?_ R3.out H2.out h63 (by omega) (fun v1 w1 ho1 hk1 hf1 => ?_); (focus (first | (simp [Act.eval]; done) | (simp [Act.eval, Act.put]; done))); (focus (first | (simp [Act.eval]; done) | (simp [Act.eval, Act.put]; done))); have kk1 := K3.out.trans hk1 (by simp); have cc1 := (G1.out.b.keep kk1 (by simp)).cell 0; have ff1 : ∀ g ∈ fp v1, w.heap.size ≤ g := (fun g hg => (hf1 g hg).elim (fun h => by have := List.mem_singleton.1 h; simp at this; omega) (fun h => Nat.le_trans K3.out.size h)); have rr3 : Reads w1 (w.heap.size + 2) 2 (some ⟨w.heap.size, 0, none⟩) 1 (pc [s.L[k]]) := reads_blk (B3.out.keep hk1 (by simp)) (by omega)))
  all_goals
    go_wp2
    go_ret
    rw [H.out]
    exact ⟨rfl, by simpa using HN.out⟩
end Go.Proofs.Ytipmhhhhfnpdgaa
