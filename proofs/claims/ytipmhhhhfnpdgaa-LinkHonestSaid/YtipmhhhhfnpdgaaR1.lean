/- The reference's link: the walks. -/
import Derived.Test.YtipmhhhhfnpdgaaW5
namespace Go.Proofs.Ytipmhhhhfnpdgaa
open Go.RowKit

theorem rhas_any (w : World) (F : List Nat) (p : Nat) (s : Lk) (i : Int) (h : LkRep 51 w F p s) :
    Calls Try.prog 35 #[.pointer (some ⟨p, 0, none⟩), .int .i64 i] w fun e w' => e = .returned (.bool (hasI s.L i)) ∧ w = w' := by
  obtain ⟨A, cap, h⟩ := h
  have c0 : w.cell? ⟨p, 0, none⟩ = some (.slice A s.L.length cap) := h.b.cell 0
  have hm := h.m
  by_cases h1 : 0 ≤ i
  · by_cases h2 : i < s.L.length
    · have e : hasI s.L i = true := by unfold hasI; simp [h1, h2]
      have H := Lib.hid e; clear e
      go_enter Try.func35, Try.ntmps35
      go_wp2
      go_ret
      exact ⟨ret_bool H.out.symm, rfl⟩
    · have e : hasI s.L i = false := by unfold hasI; simp [h2]
      have H := Lib.hid e; clear e
      go_enter Try.func35, Try.ntmps35
      go_wp2
      go_ret
      exact ⟨ret_bool H.out.symm, rfl⟩
  · have e : hasI s.L i = false := by unfold hasI; simp [h1]
    have H := Lib.hid e; clear e
    go_enter Try.func35, Try.ntmps35
    go_wp2
    go_ret
    exact ⟨ret_bool H.out.symm, rfl⟩

theorem rnew_any (w : World) : Calls Try.prog 21 #[] w fun e w' => ∃ F p, e = .returned (.pointer (some ⟨p, 0, none⟩)) ∧ LkRep 51 w' F p ⟨[], false⟩ ∧ Keeps [] w w' ∧ ∀ g ∈ F, w.heap.size ≤ g := by
  go_enter Try.func21, Try.ntmps21
  go_wp2
  go_ret
  exact ⟨[w.heap.size], w.heap.size, rfl, ⟨none, 0, rfl, Blk.new _ _ _, World.ownsRow_nil _ _ _ _, by simp, by decide⟩, (Keeps.refl _ _).alloc _, by simp⟩

theorem rcut_any (w : World) (F : List Nat) (p : Nat) (s : Lk) (h : LkRep 51 w F p s) :
    Calls Try.prog 32 #[.pointer (some ⟨p, 0, none⟩)] w fun e w' => e = .returned (.tuple #[]) ∧ ∃ F', LkRep 51 w' F' p ⟨[], true⟩ ∧ Keeps F w w' ∧ ∀ g ∈ F', g ∈ F := by
  obtain ⟨A, cap, h⟩ := h
  have c0 : w.cell? ⟨p, 0, none⟩ = some (.slice A s.L.length cap) := h.b.cell 0
  have c1 : w.cell? ⟨p, 1, none⟩ = some (.bool s.cut) := h.b.cell 1
  have f0 := h.b.frozen 0
  have f1 := h.b.frozen 1
  have hf := h.f
  go_enter Try.func32, Try.ntmps32
  go_wp2
  go_end0
  refine ⟨rfl, [p], ⟨none, 0, rfl, ?_, World.ownsRow_nil _ _ _ _, by simp, h.t⟩, ?_, by rw [hf]; simp⟩
  · exact (h.b.set_ 1 _).set_ 0 _
  · exact ((Keeps.refl _ _).setCell (.inl (by rw [hf]; simp)) _).setCell (.inl (by rw [hf]; simp)) _

theorem rjoin_any (w : World) (F : List Nat) (p : Nat) (s : Lk) (h : LkRep 51 w F p s) :
    Calls Try.prog 33 #[.pointer (some ⟨p, 0, none⟩)] w fun e w' => e = .returned (.tuple #[]) ∧ LkRep 51 w' F p ⟨s.L, false⟩ ∧ Keeps F w w' := by
  obtain ⟨A, cap, h⟩ := h
  have c1 : w.cell? ⟨p, 1, none⟩ = some (.bool s.cut) := h.b.cell 1
  have f1 := h.b.frozen 1
  go_enter Try.func33, Try.ntmps33
  go_wp2
  go_end0
  have hf := h.f
  exact ⟨rfl, ⟨A, cap, h.f, h.b.set_ 1 _, own_far h.o h.off _, h.m, h.t⟩, (Keeps.refl _ _).setCell (.inl (by rw [hf]; simp)) _⟩


/-- What the reference stores: a list in new blocks. -/
theorem fresh_store {T : TypeId} {w w1 : World} {F : List Nat} {p : Nat} {s : Lk} {A : Option Addr} {cap : Nat} {v' : Value} {L' : List Pk} (g1 : LkAt T w F p s A cap)
    (ho' : w1.ownsRow 0 31 2 v' L'.length (pc L')) (hk' : Keeps [] w w1) (hf' : ∀ g ∈ fp v', w.heap.size ≤ g) (hl : L'.length ≤ 500) :
    ∃ A1 cap1, v' = .slice A1 L'.length cap1 ∧ w1.cell? ⟨p, 0, none⟩ = some (.slice A s.L.length cap) ∧ w1.frozen? ⟨p, 0, none⟩ = false ∧ w.heap.size ≤ w1.heap.size ∧ Next T w (w1.setCell ⟨p, 0, none⟩ v') F p ⟨L', s.cut⟩ := by
  obtain ⟨A1, cap1, rfl, -, -, -⟩ := own_shape ho'
  have hf := g1.f
  have b1 := g1.b.keep hk' (by simp)
  have hoff1 : p ∉ fp (.slice A1 L'.length cap1) := own_blk_off ho' b1 (fun e => g1.t e.symm)
  refine ⟨A1, cap1, rfl, b1.cell 0, b1.frozen 0, hk'.size, p :: fp (.slice A1 L'.length cap1), ⟨A1, cap1, rfl, ?_, ?_, hl, g1.t⟩, ?_, ?_⟩
  · simpa using b1.set_ 0 (.slice A1 L'.length cap1)
  · exact own_far (p := ⟨p, 0, none⟩) ho' hoff1 (.slice A1 L'.length cap1)
  · exact (hk'.mono (G := F) (by simp)).setCell (.inl (by rw [hf]; simp)) _
  · intro g hg
    rcases List.mem_cons.1 hg with rfl | hg
    · exact .inl (by rw [hf]; simp)
    · exact .inr (hf' g hg)

set_option maxRecDepth 100000 in
set_option maxHeartbeats 1000000 in
theorem rsend_any (w : World) (F : List Nat) (p : Nat) (s : Lk) (f : Int) (b : ByteArray) (h : LkRep 51 w F p s) :
    Calls Try.prog 34 #[.pointer (some ⟨p, 0, none⟩), .int .i64 f, .string b] w fun e w' => e = .returned (.int .i64 (s.send f b).1) ∧ Next 51 w w' F p (s.send f b).2 := by
  have h0 := h
  obtain ⟨A, cap, h⟩ := h
  have c0 : w.cell? ⟨p, 0, none⟩ = some (.slice A s.L.length cap) := h.b.cell 0
  have c1 : w.cell? ⟨p, 1, none⟩ = some (.bool s.cut) := h.b.cell 1
  have hm := h.m
  have hpl := h.b.lt
  by_cases g1 : f = 0 ∨ f = 1
  rotate_left
  · have e : s.send f b = (1, s) := by unfold Lk.send; rw [if_pos (by omega)]
    have H := Lib.hid e; clear e
    have t0 : (f != 0) = true := by simp; omega
    have t1 : (f != 1) = true := by simp; omega
    clear g1
    go_enter Try.func34, Try.ntmps34
    go_wp2
    go_ret
    rw [H.out]
    exact ⟨rfl, .same h0 (Keeps.refl _ _)⟩
  cases hc : s.cut
  rotate_left
  · have e : s.send f b = (28, s) := by unfold Lk.send; rw [if_neg (by omega), if_pos hc]
    have H := Lib.hid e; clear e
    rcases g1 with rfl | rfl
    all_goals
      go_enter Try.func34, Try.ntmps34
      go_wp2
      go_ret
      rw [H.out]
      exact ⟨rfl, .same h0 (Keeps.refl _ _)⟩
  by_cases g2 : 500 ≤ s.L.length
  · have e : s.send f b = (6, s) := by unfold Lk.send; rw [if_neg (by omega), if_neg (by simp [hc]), if_pos g2]
    have H := Lib.hid e; clear e
    rcases g1 with rfl | rfl
    all_goals
      go_enter Try.func34, Try.ntmps34
      go_wp2
      go_ret
      rw [H.out]
      exact ⟨rfl, .same h0 (Keeps.refl _ _)⟩
  have e : s.send f b = (0, ⟨s.L ++ [(1 - f, b)], s.cut⟩) := by unfold Lk.send; rw [if_neg (by omega), if_neg (by simp [hc]), if_neg g2]
  have H := Lib.hid e; clear e
  have HG := Lib.hid h
  have h63 : s.L.length + 1 ≤ maxLen := by unfold maxLen; omega
  have hl : (s.L ++ [(1 - f, b)]).length ≤ 500 := by simp; omega
  have HL := Lib.hid hl
  have hk1 : Keeps [] w (w.alloc (.cells #[] 31)) := (Keeps.refl _ _).alloc _
  have HE : Hid ((w.alloc (.cells #[] 31)).ownsRow 0 31 2 (.slice (some ⟨w.heap.size, 0, none⟩) 0 0) 0 []) := own_of_blk (Blk.new w 31 #[]) (by omega) (by omega) rfl rfl
  have HR := Lib.hid (reads_own (own_keep h.o hk1 (by simp)))
  have HK := Lib.hid hk1
  clear h0 h hl hk1
  rcases g1 with rfl | rfl
  all_goals
    go_enter Try.func34, Try.ntmps34
    go_wp2_with (at_builtin; refine wpList_app _ rfl (.tmp 24) (.tmp 28) _ rfl 31 (.agg #[.int .i64 0, .string E0]) 2 24 Try.underlying27 info31 rfl (by omega) (.slice (some ⟨w.heap.size, 0, none⟩) 0 0) 0 [] rfl HE.out _ A s.L.length cap (pc s.L) rfl HR.out (pc_one _) (by omega) (by omega) ?_)
    intro v1 w1 ho1 hk1 hf1
    have hf2 : ∀ g ∈ fp v1, w.heap.size ≤ g := fun g hg => by have := hf1 g hg; omega
    have hk2 : Keeps [] w w1 := HK.out.trans hk1 (by simp)
    clear hf1 hk1
    have hs1 := hk2.size
    go_wp2_with (at_builtin; refine wpList_app _ rfl (.tmp 29) (.tmp 34) _ rfl 31 (.agg #[.int .i64 0, .string E0]) 2 24 Try.underlying27 info31 rfl (by omega) v1 s.L.length (pc s.L) rfl (own_keep ho1 ((Keeps.refl [] _).alloc _) (by simp)) _ _ _ _ _ rfl (reads_pk w1 _ b) (pc_one _) (by omega) (by omega) ?_)
    intro v2 w2 ho2 hk3 hf3
    have kk := fresh_store HG.out (by simpa [pc_append] using ho2) ((hk2.alloc (.cells #[.int .i64 _, .string b] 31)).trans hk3 (fun g hg => .inr (hf2 g hg))) (fun g hg => by
      rcases hf3 g hg with h2 | h2
      · exact hf2 g h2
      · omega) HL.out
    obtain ⟨A1, cap1, rfl, d0, d1, hsz, hn⟩ := kk
    have HN := Lib.hid hn
    clear hn ho1 ho2 hk2 hk3 hf2 hf3 c0 c1
    go_wp2
    go_ret
    rw [H.out]
    exact ⟨rfl, by simpa using HN.out⟩
end Go.Proofs.Ytipmhhhhfnpdgaa
