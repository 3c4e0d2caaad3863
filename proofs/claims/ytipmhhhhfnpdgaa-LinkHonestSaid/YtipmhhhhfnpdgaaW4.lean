/- Double, Clone, List, Copy. -/
import Derived.Test.YtipmhhhhfnpdgaaW3
namespace Go.Proofs.Ytipmhhhhfnpdgaa
open Go.RowKit

/-- What an append of packets ms onto the link's field leaves, once stored. -/
theorem app_store {T : TypeId} {w W w1 : World} {F : List Nat} {p : Nat} {s : Lk} {A : Option Addr} {cap : Nat} {v' : Value} {ms : List Pk} (g1 : LkAt T w F p s A cap) (hk : Keeps [] w W)
    (ho' : w1.ownsRow 0 31 2 v' (s.L.length + ms.length) (pc s.L ++ pc ms)) (hk' : Keeps (fp (.slice A s.L.length cap)) W w1) (hf' : ∀ g ∈ fp v', g ∈ fp (.slice A s.L.length cap) ∨ W.heap.size ≤ g) (hl : s.L.length + ms.length ≤ 500) :
    ∃ A1 cap1, v' = .slice A1 (s.L.length + ms.length) cap1 ∧ w1.cell? ⟨p, 0, none⟩ = some (.slice A s.L.length cap) ∧ w1.frozen? ⟨p, 0, none⟩ = false ∧ w.heap.size ≤ w1.heap.size ∧ Next T w (w1.setCell ⟨p, 0, none⟩ v') F p ⟨s.L ++ ms, s.cut⟩ := by
  obtain ⟨A1, cap1, rfl, -, -, -⟩ := own_shape ho'
  have hf := g1.f
  have b1 := (g1.b.keep hk (by simp)).keep hk' g1.off
  have hs := hk.size
  refine ⟨A1, cap1, rfl, b1.cell 0, b1.frozen 0, Nat.le_trans hs hk'.size, p :: fp (.slice A1 (s.L.length + ms.length) cap1), ⟨A1, cap1, by simp, ?_, ?_, by simpa using hl, g1.t⟩, ?_, ?_⟩
  · simpa using b1.set_ 0 (.slice A1 (s.L.length + ms.length) cap1)
  · have hoff1 : p ∉ fp (.slice A1 (s.L.length + ms.length) cap1) := own_blk_off ho' b1 (fun e => g1.t e.symm)
    have := own_far (p := ⟨p, 0, none⟩) ho' hoff1 (.slice A1 (s.L.length + ms.length) cap1)
    simpa [pc_append] using this
  · refine (Keeps.trans (F := F) (hk.mono (by simp)) hk' ?_).setCell (.inl (by rw [hf]; simp)) _
    intro g hg
    exact .inl (by rw [hf]; simp [hg])
  · intro g hg
    rcases List.mem_cons.1 hg with rfl | hg
    · exact .inl (by rw [hf]; simp)
    · rcases hf' g hg with h1 | h1
      · exact .inl (by rw [hf]; simp [h1])
      · exact .inr (by omega)

set_option maxRecDepth 100000 in
set_option maxHeartbeats 1000000 in
theorem double_any (w : World) (F : List Nat) (p : Nat) (s : Lk) (i : Int) (h : LkRep 53 w F p s) :
    Calls Try.prog 14 #[.pointer (some ⟨p, 0, none⟩), .int .i64 i] w fun e w' => e = .returned (.int .i64 (s.double i).1) ∧ Next 53 w w' F p (s.double i).2 := by
  have hh := has_any w F p s i h
  cases hb : hasI s.L i
  · have e : s.double i = (4, s) := by unfold Lk.double; rw [hb]; rfl
    have H := Lib.hid e; clear e
    go_enter Try.func14, Try.ntmps14
    go_wp2_with fail
    refine hh.mono ?_
    rintro e w1 ⟨rfl, rfl⟩
    go_wp2
    go_ret
    rw [H.out]
    exact ⟨rfl, .same h (Keeps.refl _ _)⟩
  obtain ⟨k, rfl, hkl⟩ := hasI_lt hb
  have h0 := h
  obtain ⟨A, cap, g1⟩ := h
  obtain ⟨_, _, hv, hcap, hmax, hA⟩ := own_shape g1.o
  obtain ⟨rfl, -, rfl⟩ : A = _ ∧ s.L.length = _ ∧ cap = _ := by injection hv with h1 h2 h3; exact ⟨h1, rfl, h3⟩
  clear hv
  obtain ⟨g, rfl⟩ := hA (by omega)
  have c0 : w.cell? ⟨p, 0, none⟩ = some (.slice (some ⟨g, 0, none⟩) s.L.length cap) := g1.b.cell 0
  have hm := g1.m
  by_cases g2 : 500 ≤ s.L.length
  · have e : s.double k = (6, s) := by unfold Lk.double; rw [hb]; simp [g2]
    have H := Lib.hid e; clear e
    go_enter Try.func14, Try.ntmps14
    go_wp2_with fail
    refine hh.mono ?_
    rintro e w1 ⟨rfl, rfl⟩
    go_wp2
    go_ret
    rw [H.out]
    exact ⟨rfl, .same h0 (Keeps.refl _ _)⟩
  have e : s.double k = (0, ⟨s.L ++ [s.L[k]], s.cut⟩) := by unfold Lk.double; rw [hb]; simp [g2, List.getD, hkl]
  have H := Lib.hid e; clear e
  have q0 : w.cell? ⟨g, k * 2, none⟩ = some (.int .i64 s.L[k].1) := own_cell g1.o (pc_at0 _ _ hkl)
  have q1 : w.cell? ⟨g, k * 2 + 1, none⟩ = some (.string s.L[k].2) := own_cell g1.o (pc_at1 _ _ hkl)
  have hpl := g1.b.lt
  have hgl : g < w.heap.size := own_lt g1.o (by simp)
  have hk0 : Keeps [] w (w.alloc (.cells #[.int .i64 s.L[k].1, .string s.L[k].2] 31)).drew := ((Keeps.refl _ _).alloc _).drew
  have HK := Lib.hid hk0
  have HO := Lib.hid (own_keep g1.o hk0 (by simp))
  have HR : Hid (Reads (w.alloc (.cells #[.int .i64 s.L[k].1, .string s.L[k].2] 31)).drew (w.heap.size + 1) 2 (some ⟨w.heap.size, 0, none⟩) 1 (pc [s.L[k]])) := (reads_pk w s.L[k].1 s.L[k].2).drew
  have H1 := Lib.hid (pc_one [s.L[k]])
  have HI := Lib.hid info31
  have h63 : s.L.length + 1 ≤ maxLen := by unfold maxLen; omega
  have hby : (s.L.length + 1) * 24 ≤ 140737488355328 := by omega
  have hi0 : (0 : Int) ≤ (k : Int) := by omega
  have hi1 : (k : Int) < (s.L.length : Int) := by omega
  have hl : s.L.length + 1 ≤ 500 := by omega
  have HL := Lib.hid hl
  have G1 := Lib.hid g1
  clear hk0 g1 h0
  go_enter Try.func14, Try.ntmps14
  go_wp2_with fail
  refine hh.mono ?_
  rintro e w1 ⟨rfl, rfl⟩
  clear hh
  go_wp2_with fail
  go_region_law (refine step_app (by rfl) (.tmp 21) (.tmp 29) 27 (by rfl) 31 (.agg #[.int .i64 0, .string E0]) 2 24 Try.underlying27 HI.out rfl (by omega) (.slice (some ⟨g, 0, none⟩) s.L.length cap) s.L.length (pc s.L) (by simp [Act.eval]) HO.out (w.heap.size + 1) (some ⟨w.heap.size, 0, none⟩) 1 1 (pc [s.L[k]]) (by simp [Act.eval]) HR.out H1.out h63 hby (fun v' w' ho' hk' hf' => ?_); have kk := app_store (ms := [s.L[k]]) G1.out HK.out ho' hk' hf' HL.out; obtain ⟨A1, cap1, rfl, d0, d1, hsz, hn⟩ := kk; have HN := Lib.hid hn; clear hn ho' hk' hf')
  all_goals
    go_wp2
    go_ret
    rw [H.out]
    exact ⟨rfl, HN.out⟩
end Go.Proofs.Ytipmhhhhfnpdgaa
